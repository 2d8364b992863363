/- Layer 6: what was encoded is decoded; its beginnings are none, nor is more. (printed by mkblklaws.py) -/
import Derived.Test.YtahkiabpjfcfdaaBlkAny
namespace Go.Proofs.Ytahkiabpjfcfdaa
open Go.RowKit
set_option linter.unusedVariables false
set_option linter.unusedSimpArgs false
set_option maxRecDepth 100000
attribute [local irreducible] Int.lt Int.le
attribute [local go_sem] sB_append
attribute [local go_sem ↓] load_key store_key alloc_key build0_key eq_key load_tx store_tx alloc_tx build0_tx load_blk store_blk alloc_blk build0_blk
attribute [local go_sem] rowOf_drew rowOf_alloc_old rowOf_alloc_new canPut_drew canPut_alloc_old canPut_alloc_new setCells_alloc_new

theorem blkErr_nil {d : BlkD} {s : List UInt8} {x : Int} (h : blkV d = (s, x)) (hx : ¬ x = 0) : s = [] := by
  rcases blkV_cases d with ⟨h1, _⟩ | ⟨h1, _⟩
  · rw [h] at h1; exact h1
  · rw [h] at h1; exact absurd h1 hx
theorem blkV_few2 {d : BlkD} (h : d.txs.length ≤ 40) : (blkV d).1.length ≤ 400000 := by
  rcases blkV_cases d with ⟨h1, _⟩ | ⟨_, h2⟩
  · rw [h1]; exact Nat.zero_le _
  · have := sizesN_few d.txs
    omega

set_option maxHeartbeats 8000000 in
theorem blockBack_walk (v : BlkV) (qs : List (TxV × TxD)) (d : BlkD) (cut : Nat) (W : World) (h : BlkL W v qs d) (hc : cut < 65536) : Calls Try.prog 11 #[.agg (blkC v).toArray, .int .u16 cut] W (Gives (.bool true) W) := by
  have hB0 : Below W.heap.size W (W.alloc (.cells (blkC v).toArray 50)) := (Below.refl _ _).alloc (Nat.le_refl _) _
  have K_t := Box.mk (heap_alloc_new W (.cells (blkC v).toArray 50))
  have L := Box.mk (h.below hB0)
  have BW := Box.mk hB0
  have hok : ∀ t ∈ d.txs, TxOK t := fun t ht => by
    rw [h.cont] at ht
    obtain ⟨q, hq, rfl⟩ := List.mem_map.1 ht
    exact (h.each q hq).ok
  have hnon := h.nonce.2
  replace hok := Box.mk hok
  replace hnon := Box.mk hnon
  clear h hB0
  cases ha : hvB d
  case true =>
    have R_t := blk_row K_t.out
    have S_t := (Array.getElem?_eq_some_iff.1 K_t.out).1
    go_enter Try.func11, Try.ntmps11
    go_wp2_with fail
    generalize W.alloc (.cells (blkC v).toArray 50) = w0 at *
    refine (heavy06_any v qs d _ L.out).mono ?_
    rintro e1 w1 ⟨rfl, b1⟩
    rw [ha]
    clear R_t
    clear S_t
    replace K_t := Box.mk (keepBlock b1 K_t.out)
    replace L := Box.mk (L.out.below b1)
    replace BW := Box.mk (BW.out.trans (b1.mono BW.out.size))
    go_wp2_with fail
    refine (shown06_any _).mono ?_
    rintro e3 ws ⟨rfl, bs⟩
    replace BW := Box.mk (BW.out.trans (bs.mono BW.out.size))
    go_wp2
    go_ret
    exact gives_bool rfl BW.out
  case false =>
    have R_t := blk_row K_t.out
    have S_t := (Array.getElem?_eq_some_iff.1 K_t.out).1
    go_enter Try.func11, Try.ntmps11
    go_wp2_with fail
    generalize W.alloc (.cells (blkC v).toArray 50) = w0 at *
    refine (heavy06_any v qs d _ L.out).mono ?_
    rintro e1 w1 ⟨rfl, b1⟩
    rw [ha]
    clear R_t
    clear S_t
    replace K_t := Box.mk (keepBlock b1 K_t.out)
    replace L := Box.mk (L.out.below b1)
    replace BW := Box.mk (BW.out.trans (b1.mono BW.out.size))
    go_wp2_with fail
    refine (shown06_any _).mono ?_
    rintro e3 w3 ⟨rfl, b3⟩
    replace K_t := Box.mk (keepBlock b3 K_t.out)
    replace L := Box.mk (L.out.below b3)
    replace BW := Box.mk (BW.out.trans (b3.mono BW.out.size))
    have R_t := blk_row K_t.out
    have S_t := (Array.getElem?_eq_some_iff.1 K_t.out).1
    have hk := Box.mk (hvB_ok ha)
    obtain ⟨s, x, hE⟩ : ∃ s x, blkV d = (s, x) := ⟨_, _, rfl⟩
    have hfew := blkV_few2 hk.out.1
    rw [hE] at hfew
    replace hfew : s.length ≤ 400000 := hfew
    go_wp2_with fail
    refine (bencode_any v qs d _ L.out hk.out).mono ?_
    rintro e4 w4 ⟨rfl, b4⟩
    rw [hE]
    unfold valE
    clear R_t
    clear S_t
    replace K_t := Box.mk (keepBlock b4 K_t.out)
    replace L := Box.mk (L.out.below b4)
    replace BW := Box.mk (BW.out.trans (b4.mono BW.out.size))
    by_cases hx : x = 0
    · subst hx
      obtain ⟨hR, hsne⟩ := blk_back hE hok.out hnon.out
      have hL0 : 0 < s.length := List.length_pos_iff.2 hsne
      have q2 := blk_read hR
      obtain ⟨c, hcl, hc1, hc2⟩ : ∃ c : Nat, c < s.length ∧ (cut : Int) % (s.length : Int) = (c : Int) ∧ (cut : Int).tmod (s.length : Int) = (c : Int) := ⟨cut % s.length, Nat.mod_lt _ hL0, by simp, by rw [Int.tmod_eq_emod_of_nonneg (by omega)]; simp⟩
      have q3 := blk_short hR c hcl
      have q4 := blk_more hR [120] (by simp)
      have hss : (s == []) = false := by cases s with | nil => simp at hL0 | cons x l => rfl
      have hnz : ((s.length : Int) == 0) = false := by rw [beq_eq_false_iff_ne]; omega
      have hnz2 : ¬ ((s.length : Int) = 0) := by omega
      have hcl' : (c : Int) ≤ (s.length : Int) := by omega
      have hx1 : (sB s).extract 0 c = sB (s.take c) := by rw [sB_extract, List.drop_zero]
      have hz := sB_size s
      have hlit : (⟨#[120]⟩ : ByteArray) = sB [120] := rfl
      have g2 : ¬ (9223372036854775807 < s.length + 1) := by omega
      replace q2 := Box.mk q2
      replace q3 := Box.mk q3
      replace q4 := Box.mk q4
      replace hE := Box.mk hE
      replace hR := Box.mk hR
      replace hsne := Box.mk hsne
      have hLb := Box.mk hfew
      go_wp2_with fail
      refine (bdecode_any s w4 (by have := hLb.out; omega)).mono ?_
      rw [q2.out]
      rintro e w7 ⟨t2, qs2, rfl, L_2, b7⟩
      replace L_2 := Box.mk L_2
      replace K_t := Box.mk (keepBlock b7 K_t.out)
      replace L := Box.mk (L.out.below b7)
      replace BW := Box.mk (BW.out.trans (b7.mono BW.out.size))
      go_wp2_with fail
      have hA : Below w7.heap.size w7 (w7.alloc (.cells (blkC t2).toArray 50)) := (Below.refl _ _).alloc (Nat.le_refl _) _
      have hKn := heap_alloc_new w7 (.cells (blkC t2).toArray 50)
      replace K_t := Box.mk (keepBlock hA K_t.out)
      replace L := Box.mk (L.out.below hA)
      replace L_2 := Box.mk (L_2.out.below hA)
      replace BW := Box.mk (BW.out.trans (hA.mono BW.out.size))
      have K_t2 := Box.mk hKn
      clear hKn
      have hsz_w8 : (w7.alloc (.cells (blkC t2).toArray 50)).heap.size = w7.heap.size + 1 := by simp
      clear hA
      generalize w7.alloc (.cells (blkC t2).toArray 50) = w8 at *
      replace hsz_w8 := Box.mk hsz_w8
      refine (bdecode_any (s.take c) w8 (by rw [List.length_take]; have := hLb.out; omega)).mono ?_
      rw [q3.out]
      rintro e w9 ⟨rfl, _, b9⟩
      replace K_t := Box.mk (keepBlock b9 K_t.out)
      replace K_t2 := Box.mk (keepBlock b9 K_t2.out)
      replace L := Box.mk (L.out.below b9)
      replace L_2 := Box.mk (L_2.out.below b9)
      replace BW := Box.mk (BW.out.trans (b9.mono BW.out.size))
      go_wp2_with fail
      have hA : Below w9.heap.size w9 (w9.alloc (.cells (blkC zeroBlk).toArray 50)) := (Below.refl _ _).alloc (Nat.le_refl _) _
      replace K_t := Box.mk (keepBlock hA K_t.out)
      replace K_t2 := Box.mk (keepBlock hA K_t2.out)
      replace L := Box.mk (L.out.below hA)
      replace L_2 := Box.mk (L_2.out.below hA)
      replace BW := Box.mk (BW.out.trans (hA.mono BW.out.size))
      have hsz_wa : (w9.alloc (.cells (blkC zeroBlk).toArray 50)).heap.size = w9.heap.size + 1 := by simp
      clear hA
      generalize w9.alloc (.cells (blkC zeroBlk).toArray 50) = wa at *
      replace hsz_wa := Box.mk hsz_wa
      refine (bdecode_any (s ++ [120]) wa (by rw [List.length_append]; have := hLb.out; simp; omega)).mono ?_
      rw [q4.out]
      rintro e wb ⟨rfl, _, bb⟩
      replace K_t := Box.mk (keepBlock bb K_t.out)
      replace K_t2 := Box.mk (keepBlock bb K_t2.out)
      replace L := Box.mk (L.out.below bb)
      replace L_2 := Box.mk (L_2.out.below bb)
      replace BW := Box.mk (BW.out.trans (bb.mono BW.out.size))
      have R_t := blk_row K_t.out
      have S_t := (Array.getElem?_eq_some_iff.1 K_t.out).1
      have R_t2 := blk_row K_t2.out
      have S_t2 := (Array.getElem?_eq_some_iff.1 K_t2.out).1
      have S4 : Below wb.heap.size wb (wb.alloc (.cells (blkC zeroBlk).toArray 50)) := (Below.refl _ _).alloc (Nat.le_refl _) _
      go_wp2_with fail
      clear S4
      have hA : Below wb.heap.size wb (wb.alloc (.cells (blkC zeroBlk).toArray 50)) := (Below.refl _ _).alloc (Nat.le_refl _) _
      clear R_t2
      clear S_t2
      clear R_t
      clear S_t
      replace K_t := Box.mk (keepBlock hA K_t.out)
      replace K_t2 := Box.mk (keepBlock hA K_t2.out)
      replace L := Box.mk (L.out.below hA)
      replace L_2 := Box.mk (L_2.out.below hA)
      replace BW := Box.mk (BW.out.trans (hA.mono BW.out.size))
      have hsz_wc : (wb.alloc (.cells (blkC zeroBlk).toArray 50)).heap.size = wb.heap.size + 1 := by simp
      clear hA
      generalize wb.alloc (.cells (blkC zeroBlk).toArray 50) = wc at *
      replace hsz_wc := Box.mk hsz_wc
      have R_t := blk_row K_t.out
      have S_t := (Array.getElem?_eq_some_iff.1 K_t.out).1
      have R_t2 := blk_row K_t2.out
      have S_t2 := (Array.getElem?_eq_some_iff.1 K_t2.out).1
      refine (rsame6_any t2 v qs2 qs d wc L_2.out L.out hk.out).mono ?_
      rintro e wd ⟨rfl, bd⟩
      clear R_t2
      clear S_t2
      clear R_t
      clear S_t
      replace K_t := Box.mk (keepBlock bd K_t.out)
      replace K_t2 := Box.mk (keepBlock bd K_t2.out)
      replace L := Box.mk (L.out.below bd)
      replace L_2 := Box.mk (L_2.out.below bd)
      replace BW := Box.mk (BW.out.trans (bd.mono BW.out.size))
      go_wp2
      go_ret
      exact gives_bool rfl BW.out
    · have hnil := blkErr_nil hE hx
      subst hnil
      have hx2 : (x != 0) = true := by simpa using hx
      replace hE := Box.mk hE
      replace hx := Box.mk hx
      go_wp2
      go_ret
      exact gives_bool rfl BW.out

end Go.Proofs.Ytahkiabpjfcfdaa
