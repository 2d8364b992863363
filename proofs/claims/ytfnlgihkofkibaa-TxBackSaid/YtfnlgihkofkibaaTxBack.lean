/- Layer 5: what was encoded is decoded, with what is behind it; its beginnings are none. (printed by mktxdec.py) -/
import Derived.Test.YtfnlgihkofkibaaTxAny
namespace Go.Proofs.Ytfnlgihkofkibaa
open Go.RowKit
set_option linter.unusedVariables false
set_option linter.unusedSimpArgs false
set_option maxRecDepth 100000
attribute [local irreducible] Int.lt Int.le
attribute [local go_sem] sB_append
attribute [local go_sem ↓] load_key store_key alloc_key build0_key eq_key load_point store_point alloc_point load_out store_out alloc_out load_tx store_tx alloc_tx build0_tx
attribute [local go_sem] rowOf_drew rowOf_alloc_old rowOf_alloc_new canPut_drew canPut_alloc_old canPut_alloc_new setCells_alloc_new

theorem txErr_cases {d : TxD} (h : ¬ (encV d).2 = 0) : encV d = ([], 51) ∨ encV d = ([], 1) := by
  rcases encV_cases d with ⟨hm, hE⟩ | ⟨hm, _, _, hE⟩ | ⟨hm, _, hE⟩
  · exact .inl hE
  · exact .inr hE
  · rw [hE] at h; exact absurd rfl h

set_option maxHeartbeats 8000000 in
theorem txBack_walk (t : TxV) (d : TxD) (rest : List UInt8) (cut : Nat) (W : World) (h : TxL W t d) (hc : cut < 65536) : Calls Try.prog 6 #[.agg (txC t).toArray, .string (sB rest), .int .u16 cut] W (LawEnd W) := by
  have hB0 : Below W.heap.size W (W.alloc (.cells (txC t).toArray 29)) := (Below.refl _ _).alloc (Nat.le_refl _) _
  have K_t := Box.mk (heap_alloc_new W (.cells (txC t).toArray 29))
  have L := Box.mk (h.below hB0)
  have BW := Box.mk hB0
  have hok := Box.mk h.ok
  clear h hB0
  have hA : (heavyB t = true) ∨ (heavyB t = false ∧ (200 : Int) < rest.length) ∨ (heavyB t = false ∧ ¬ (200 : Int) < rest.length) := by cases heavyB t <;> simp <;> omega
  rcases hA with ha | ⟨ha, hr⟩ | ⟨ha, hr⟩
  · have R_t := tx_row K_t.out
    have S_t := (Array.getElem?_eq_some_iff.1 K_t.out).1
    go_enter Try.func6, Try.ntmps6
    go_wp2_with fail
    generalize W.alloc (.cells (txC t).toArray 29) = w0 at *
    refine (heavy_any t _).mono ?_
    rintro e1 w1 ⟨rfl, b1⟩
    rw [ha]
    clear R_t
    clear S_t
    replace K_t := Box.mk (keepBlock b1 K_t.out)
    replace L := Box.mk (L.out.below b1)
    replace BW := Box.mk (BW.out.trans (b1.mono BW.out.size))
    go_wp2_with fail
    refine (shown05 _).mono ?_
    rintro e3 ws ⟨rfl, bs⟩
    replace BW := Box.mk (BW.out.trans (bs.mono BW.out.size))
    go_wp2
    go_ret
    exact gives_bool rfl BW.out
  · have R_t := tx_row K_t.out
    have S_t := (Array.getElem?_eq_some_iff.1 K_t.out).1
    go_enter Try.func6, Try.ntmps6
    go_wp2_with fail
    generalize W.alloc (.cells (txC t).toArray 29) = w0 at *
    refine (heavy_any t _).mono ?_
    rintro e1 w1 ⟨rfl, b1⟩
    rw [ha]
    clear R_t
    clear S_t
    replace K_t := Box.mk (keepBlock b1 K_t.out)
    replace L := Box.mk (L.out.below b1)
    replace BW := Box.mk (BW.out.trans (b1.mono BW.out.size))
    go_wp2_with fail
    refine (shown05 _).mono ?_
    rintro e3 ws ⟨rfl, bs⟩
    replace BW := Box.mk (BW.out.trans (bs.mono BW.out.size))
    go_wp2
    go_ret
    exact gives_bool rfl BW.out
  · have R_t := tx_row K_t.out
    have S_t := (Array.getElem?_eq_some_iff.1 K_t.out).1
    go_enter Try.func6, Try.ntmps6
    go_wp2_with fail
    generalize W.alloc (.cells (txC t).toArray 29) = w0 at *
    refine (heavy_any t _).mono ?_
    rintro e1 w1 ⟨rfl, b1⟩
    rw [ha]
    clear R_t
    clear S_t
    replace K_t := Box.mk (keepBlock b1 K_t.out)
    replace L := Box.mk (L.out.below b1)
    replace BW := Box.mk (BW.out.trans (b1.mono BW.out.size))
    go_wp2_with fail
    refine (shown05 _).mono ?_
    rintro e3 w3 ⟨rfl, b3⟩
    replace K_t := Box.mk (keepBlock b3 K_t.out)
    replace L := Box.mk (L.out.below b3)
    replace BW := Box.mk (BW.out.trans (b3.mono BW.out.size))
    have R_t := tx_row K_t.out
    have S_t := (Array.getElem?_eq_some_iff.1 K_t.out).1
    have hlt := heavyB_false' ha
    replace hlt := Box.mk hlt
    have hr2 : rest.length ≤ 200 := by omega
    go_wp2_with fail
    refine (encode_any t d _ L.out).mono ?_
    rintro e4 w4 ⟨rfl, b4⟩
    clear R_t
    clear S_t
    replace K_t := Box.mk (keepBlock b4 K_t.out)
    replace L := Box.mk (L.out.below b4)
    replace BW := Box.mk (BW.out.trans (b4.mono BW.out.size))
    unfold valE
    by_cases hx : (encV d).2 = 0
    · obtain ⟨s, x, hE⟩ : ∃ s x, encV d = (s, x) := ⟨_, _, rfl⟩
      rw [hE] at hx
      simp only at hx
      subst hx
      obtain ⟨hw, hsE⟩ := well_of_encV hE
      rw [hE]
      have hlen := encB_length hw.1
      obtain ⟨mm1, mm2, mm3, mm4⟩ := manyB_false hw.1
      rw [← hsE] at hlen
      have hL : s.length ≤ 10000 := by split at hlen <;> omega
      have hL0 : 0 < s.length := by split at hlen <;> omega
      clear hlen mm1 mm2 mm3 mm4
      have q1 : txR (s ++ rest) = .ok (d, rest) := by rw [hsE]; exact (tx_reads hok.out hw).back rest
      have q2 : decR s = .ok d := by rw [hsE]; exact decR_back hok.out hw
      obtain ⟨c, hcl, hc1, hc2⟩ : ∃ c : Nat, c < s.length ∧ (cut : Int) % (s.length : Int) = (c : Int) ∧ (cut : Int).tmod (s.length : Int) = (c : Int) := ⟨cut % s.length, Nat.mod_lt _ hL0, by simp, by rw [Int.tmod_eq_emod_of_nonneg (by omega)]; simp⟩
      have q3 : decR (s.take c) = .error 30 := by rw [hsE]; exact decR_short hok.out hw (by rw [← hsE]; exact hcl)
      have q4 : decR (s ++ [120]) = .error 50 := by rw [hsE]; exact decR_longer hok.out hw 120
      have hss : (s == []) = false := by cases s with | nil => simp at hL0 | cons x l => rfl
      have hnz : ((s.length : Int) == 0) = false := by rw [beq_eq_false_iff_ne]; omega
      have hnz2 : ¬ ((s.length : Int) = 0) := by omega
      have hcl' : (c : Int) ≤ (s.length : Int) := by omega
      have hx1 : (sB s).extract 0 c = sB (s.take c) := by rw [sB_extract, List.drop_zero]
      have hz := sB_size s
      have hlit : (⟨#[120]⟩ : ByteArray) = sB [120] := rfl
      have g1 : ¬ (9223372036854775807 < s.length + rest.length) := by omega
      have g2 : ¬ (9223372036854775807 < s.length + 1) := by omega
      have hfew := hw.1
      replace q1 := Box.mk q1
      replace q2 := Box.mk q2
      replace q3 := Box.mk q3
      replace q4 := Box.mk q4
      replace hE := Box.mk hE
      replace hw := Box.mk hw
      replace hsE := Box.mk hsE
      replace hfew := Box.mk hfew
      replace hlt := Box.mk hlt.out
      have hLb := Box.mk hL
      have hr2b := Box.mk hr2
      go_wp2_with fail
      refine (txRead_any (s ++ rest) w4 (by rw [List.length_append]; have := hLb.out; have := hr2b.out; omega)).mono ?_
      rw [q1.out]
      rintro e w5 ⟨t1, rfl, O_1, b5⟩
      have L_1 := Box.mk O_1.txl
      clear O_1
      unfold valR
      replace K_t := Box.mk (keepBlock b5 K_t.out)
      replace L := Box.mk (L.out.below b5)
      replace BW := Box.mk (BW.out.trans (b5.mono BW.out.size))
      go_wp2_with fail
      have hA : Below w5.heap.size w5 (w5.alloc (.cells (txC t1).toArray 29)) := (Below.refl _ _).alloc (Nat.le_refl _) _
      have hKn := heap_alloc_new w5 (.cells (txC t1).toArray 29)
      replace K_t := Box.mk (keepBlock hA K_t.out)
      replace L := Box.mk (L.out.below hA)
      replace L_1 := Box.mk (L_1.out.below hA)
      replace BW := Box.mk (BW.out.trans (hA.mono BW.out.size))
      have K_t1 := Box.mk hKn
      clear hKn
      have hsz_w6 : (w5.alloc (.cells (txC t1).toArray 29)).heap.size = w5.heap.size + 1 := by simp
      clear hA
      generalize w5.alloc (.cells (txC t1).toArray 29) = w6 at *
      replace hsz_w6 := Box.mk hsz_w6
      refine (decode_any s w6 (by have := hLb.out; omega)).mono ?_
      rw [q2.out]
      rintro e w7 ⟨t2, rfl, L_2, b7⟩
      replace L_2 := Box.mk L_2
      replace K_t := Box.mk (keepBlock b7 K_t.out)
      replace K_t1 := Box.mk (keepBlock b7 K_t1.out)
      replace L := Box.mk (L.out.below b7)
      replace L_1 := Box.mk (L_1.out.below b7)
      replace BW := Box.mk (BW.out.trans (b7.mono BW.out.size))
      go_wp2_with fail
      have hA : Below w7.heap.size w7 (w7.alloc (.cells (txC t2).toArray 29)) := (Below.refl _ _).alloc (Nat.le_refl _) _
      have hKn := heap_alloc_new w7 (.cells (txC t2).toArray 29)
      replace K_t := Box.mk (keepBlock hA K_t.out)
      replace K_t1 := Box.mk (keepBlock hA K_t1.out)
      replace L := Box.mk (L.out.below hA)
      replace L_1 := Box.mk (L_1.out.below hA)
      replace L_2 := Box.mk (L_2.out.below hA)
      replace BW := Box.mk (BW.out.trans (hA.mono BW.out.size))
      have K_t2 := Box.mk hKn
      clear hKn
      have hsz_w8 : (w7.alloc (.cells (txC t2).toArray 29)).heap.size = w7.heap.size + 1 := by simp
      clear hA
      generalize w7.alloc (.cells (txC t2).toArray 29) = w8 at *
      replace hsz_w8 := Box.mk hsz_w8
      refine (decode_any (s.take c) w8 (by rw [List.length_take]; have := hLb.out; omega)).mono ?_
      rw [q3.out]
      rintro e w9 ⟨rfl, b9⟩
      replace K_t := Box.mk (keepBlock b9 K_t.out)
      replace K_t1 := Box.mk (keepBlock b9 K_t1.out)
      replace K_t2 := Box.mk (keepBlock b9 K_t2.out)
      replace L := Box.mk (L.out.below b9)
      replace L_1 := Box.mk (L_1.out.below b9)
      replace L_2 := Box.mk (L_2.out.below b9)
      replace BW := Box.mk (BW.out.trans (b9.mono BW.out.size))
      go_wp2_with fail
      have hA : Below w9.heap.size w9 (w9.alloc (.cells (txC zeroTx).toArray 29)) := (Below.refl _ _).alloc (Nat.le_refl _) _
      replace K_t := Box.mk (keepBlock hA K_t.out)
      replace K_t1 := Box.mk (keepBlock hA K_t1.out)
      replace K_t2 := Box.mk (keepBlock hA K_t2.out)
      replace L := Box.mk (L.out.below hA)
      replace L_1 := Box.mk (L_1.out.below hA)
      replace L_2 := Box.mk (L_2.out.below hA)
      replace BW := Box.mk (BW.out.trans (hA.mono BW.out.size))
      have hsz_wa : (w9.alloc (.cells (txC zeroTx).toArray 29)).heap.size = w9.heap.size + 1 := by simp
      clear hA
      generalize w9.alloc (.cells (txC zeroTx).toArray 29) = wa at *
      replace hsz_wa := Box.mk hsz_wa
      refine (decode_any (s ++ [120]) wa (by rw [List.length_append]; have := hLb.out; simp; omega)).mono ?_
      rw [q4.out]
      rintro e wb ⟨rfl, bb⟩
      replace K_t := Box.mk (keepBlock bb K_t.out)
      replace K_t1 := Box.mk (keepBlock bb K_t1.out)
      replace K_t2 := Box.mk (keepBlock bb K_t2.out)
      replace L := Box.mk (L.out.below bb)
      replace L_1 := Box.mk (L_1.out.below bb)
      replace L_2 := Box.mk (L_2.out.below bb)
      replace BW := Box.mk (BW.out.trans (bb.mono BW.out.size))
      have R_t := tx_row K_t.out
      have S_t := (Array.getElem?_eq_some_iff.1 K_t.out).1
      have R_t1 := tx_row K_t1.out
      have S_t1 := (Array.getElem?_eq_some_iff.1 K_t1.out).1
      have R_t2 := tx_row K_t2.out
      have S_t2 := (Array.getElem?_eq_some_iff.1 K_t2.out).1
      have S4 : Below wb.heap.size wb (wb.alloc (.cells (txC zeroTx).toArray 29)) := (Below.refl _ _).alloc (Nat.le_refl _) _
      go_wp2_with fail
      clear S4
      have hA : Below wb.heap.size wb (wb.alloc (.cells (txC zeroTx).toArray 29)) := (Below.refl _ _).alloc (Nat.le_refl _) _
      clear R_t1
      clear S_t1
      clear R_t2
      clear S_t2
      clear R_t
      clear S_t
      replace K_t := Box.mk (keepBlock hA K_t.out)
      replace K_t1 := Box.mk (keepBlock hA K_t1.out)
      replace K_t2 := Box.mk (keepBlock hA K_t2.out)
      replace L := Box.mk (L.out.below hA)
      replace L_1 := Box.mk (L_1.out.below hA)
      replace L_2 := Box.mk (L_2.out.below hA)
      replace BW := Box.mk (BW.out.trans (hA.mono BW.out.size))
      have hsz_wc : (wb.alloc (.cells (txC zeroTx).toArray 29)).heap.size = wb.heap.size + 1 := by simp
      clear hA
      generalize wb.alloc (.cells (txC zeroTx).toArray 29) = wc at *
      replace hsz_wc := Box.mk hsz_wc
      have R_t := tx_row K_t.out
      have S_t := (Array.getElem?_eq_some_iff.1 K_t.out).1
      have R_t1 := tx_row K_t1.out
      have S_t1 := (Array.getElem?_eq_some_iff.1 K_t1.out).1
      have R_t2 := tx_row K_t2.out
      have S_t2 := (Array.getElem?_eq_some_iff.1 K_t2.out).1
      refine (refSame_any t1 t d d wc L_1.out L.out (L_1.out.few hfew.out)).mono ?_
      rintro e wd ⟨rfl, bd⟩
      rw [sameB_self]
      clear R_t1
      clear S_t1
      clear R_t2
      clear S_t2
      clear R_t
      clear S_t
      replace K_t := Box.mk (keepBlock bd K_t.out)
      replace K_t1 := Box.mk (keepBlock bd K_t1.out)
      replace K_t2 := Box.mk (keepBlock bd K_t2.out)
      replace L := Box.mk (L.out.below bd)
      replace L_1 := Box.mk (L_1.out.below bd)
      replace L_2 := Box.mk (L_2.out.below bd)
      replace BW := Box.mk (BW.out.trans (bd.mono BW.out.size))
      have R_t := tx_row K_t.out
      have S_t := (Array.getElem?_eq_some_iff.1 K_t.out).1
      have R_t1 := tx_row K_t1.out
      have S_t1 := (Array.getElem?_eq_some_iff.1 K_t1.out).1
      have R_t2 := tx_row K_t2.out
      have S_t2 := (Array.getElem?_eq_some_iff.1 K_t2.out).1
      go_wp2_with fail
      refine (refSame_any t2 t d d wd L_2.out L.out (L_2.out.few hfew.out)).mono ?_
      rintro e we ⟨rfl, be⟩
      rw [sameB_self]
      clear R_t1
      clear S_t1
      clear R_t2
      clear S_t2
      clear R_t
      clear S_t
      replace K_t := Box.mk (keepBlock be K_t.out)
      replace K_t1 := Box.mk (keepBlock be K_t1.out)
      replace K_t2 := Box.mk (keepBlock be K_t2.out)
      replace L := Box.mk (L.out.below be)
      replace L_1 := Box.mk (L_1.out.below be)
      replace L_2 := Box.mk (L_2.out.below be)
      replace BW := Box.mk (BW.out.trans (be.mono BW.out.size))
      go_wp2
      go_ret
      exact gives_bool (by simp) BW.out
    · rcases txErr_cases hx with hE | hE
      all_goals
        rw [hE]
        replace hE := Box.mk hE
        replace hx := Box.mk hx
        go_wp2
        go_ret
        exact gives_bool rfl BW.out

end Go.Proofs.Ytfnlgihkofkibaa
