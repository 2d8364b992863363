/- Layer 6: any block's bytes, name, notes and signatures are the document's, or its error. (printed by mkblkencodes.py) -/
import Derived.Test.YtahkiabpjfcfdaaBlkId
import Derived.Test.YtahkiabpjfcfdaaRefBlk2
import Derived.Test.YtahkiabpjfcfdaaBlkHalf
import Derived.Test.YtahkiabpjfcfdaaSameK
import Derived.Test.YtahkiabpjfcfdaaBase
namespace Go.Proofs.Ytahkiabpjfcfdaa
open Go.RowKit
set_option linter.unusedVariables false
set_option linter.unusedSimpArgs false
set_option maxRecDepth 100000
attribute [local irreducible] Int.lt Int.le
attribute [local go_sem ↓] load_key store_key alloc_key build0_key eq_key load_tx store_tx alloc_tx load_blk store_blk alloc_blk build0_blk build_blk3 one_tx build0_tx
attribute [local go_sem] rowOf_drew rowOf_alloc_old rowOf_alloc_new canPut_drew canPut_alloc_old canPut_alloc_new setCells_alloc_new

theorem blk_row {w : World} {b : Nat} {v : BlkV} (h : w.heap[b]? = some (.cells (blkC v).toArray 50 (0, 0))) : rowOf w b 0 66 = some (blkC v) := (blk_all h).2.1
/-- A block of one transaction. -/
theorem one_L {w : World} {t : TxV} {e : TxD} (h : TxL w t e) : BlkL (w.alloc (.cells (txC t).toArray 41)) ⟨zeroKey, zeroKey, 0, ⟨some ⟨w.heap.size, 0, none⟩, 1, 1⟩⟩ [(t, e)] ⟨zeroKey, zeroKey, 0, [e]⟩ :=
  ⟨SL.one (f := fun q : TxV × TxD => txC q.1) (fun q => txC_length q.1) (t, e) 41 w, fun q hq => by rw [List.mem_singleton.1 hq]; exact h.below ((Below.refl _ _).alloc (Nat.le_refl _) _), rfl, rfl, rfl, ⟨rfl, (by decide : (0 : Int) ≤ 0), (by decide : (0 : Int) ≤ 4294967295)⟩⟩

set_option maxHeartbeats 8000000 in
theorem blockEncodes_walk (v : BlkV) (qs : List (TxV × TxD)) (d : BlkD) (t : TxV) (e : TxD) (W : World) (h : BlkL W v qs d) (h' : TxL W t e) : Calls Try.prog 12 #[.agg (blkC v).toArray, .agg (txC t).toArray] W (Gives (.bool true) W) := by
  have hB0 : Below W.heap.size W ((W.alloc (.cells (blkC v).toArray 50)).alloc (.cells (txC t).toArray 41)) := ((Below.refl _ _).alloc (Nat.le_refl _) _).alloc (by simp) _
  have K_b := Box.mk (show ((W.alloc (.cells (blkC v).toArray 50)).alloc (.cells (txC t).toArray 41)).heap[W.heap.size]? = some (.cells (blkC v).toArray 50 (0, 0)) from by rw [Below.heap_alloc _ _ _ (by simp)]; exact heap_alloc_new W _)
  have K_t := Box.mk (show ((W.alloc (.cells (blkC v).toArray 50)).alloc (.cells (txC t).toArray 41)).heap[W.heap.size + 1]? = some (.cells (txC t).toArray 41 (0, 0)) from by have := heap_alloc_new (W.alloc (.cells (blkC v).toArray 50)) (.cells (txC t).toArray 41); rw [World.size_alloc] at this; exact this)
  have L := Box.mk (h.below hB0)
  have L' := Box.mk (h'.below hB0)
  have BW := Box.mk hB0
  clear h h' hB0
  have hA : (hvB d = true) ∨ (hvB d = false ∧ hvB ⟨zeroKey, zeroKey, 0, [e]⟩ = true) ∨ (hvB d = false ∧ hvB ⟨zeroKey, zeroKey, 0, [e]⟩ = false) := by cases hvB d <;> cases hvB ⟨zeroKey, zeroKey, 0, [e]⟩ <;> simp
  rcases hA with ha | ⟨ha, ha2⟩ | ⟨ha, ha2⟩

  · have R_b := blk_row K_b.out
    have S_b := (Array.getElem?_eq_some_iff.1 K_b.out).1
    have R_t := tx_row38 K_t.out
    have S_t := (Array.getElem?_eq_some_iff.1 K_t.out).1
    go_enter Try.func12, Try.ntmps12
    go_wp2_with fail
    generalize (W.alloc (.cells (blkC v).toArray 50)).alloc (.cells (txC t).toArray 41) = w0 at *
    refine (heavy06_any v qs d _ L.out).mono ?_
    rintro e1 w1 ⟨rfl, b1⟩
    rw [ha]
    clear R_t
    clear S_t
    clear R_b
    clear S_b
    replace K_b := Box.mk (keepBlock b1 K_b.out)
    replace K_t := Box.mk (keepBlock b1 K_t.out)
    replace L := Box.mk (L.out.below b1)
    replace L' := Box.mk (L'.out.below b1)
    replace BW := Box.mk (BW.out.trans (b1.mono BW.out.size))
    have R_b := blk_row K_b.out
    have S_b := (Array.getElem?_eq_some_iff.1 K_b.out).1
    have R_t := tx_row38 K_t.out
    have S_t := (Array.getElem?_eq_some_iff.1 K_t.out).1
    go_wp2_with fail
    refine (shown06_any _).mono ?_
    rintro e3 ws ⟨rfl, bs⟩
    clear R_t
    clear S_t
    clear R_b
    clear S_b
    replace BW := Box.mk (BW.out.trans (bs.mono BW.out.size))
    go_wp2
    go_ret
    exact gives_bool rfl BW.out
  · have R_b := blk_row K_b.out
    have S_b := (Array.getElem?_eq_some_iff.1 K_b.out).1
    have R_t := tx_row38 K_t.out
    have S_t := (Array.getElem?_eq_some_iff.1 K_t.out).1
    go_enter Try.func12, Try.ntmps12
    go_wp2_with fail
    generalize (W.alloc (.cells (blkC v).toArray 50)).alloc (.cells (txC t).toArray 41) = w0 at *
    refine (heavy06_any v qs d _ L.out).mono ?_
    rintro e1 w1 ⟨rfl, b1⟩
    rw [ha]
    clear R_t
    clear S_t
    clear R_b
    clear S_b
    replace K_b := Box.mk (keepBlock b1 K_b.out)
    replace K_t := Box.mk (keepBlock b1 K_t.out)
    replace L := Box.mk (L.out.below b1)
    replace L' := Box.mk (L'.out.below b1)
    replace BW := Box.mk (BW.out.trans (b1.mono BW.out.size))
    have R_b := blk_row K_b.out
    have S_b := (Array.getElem?_eq_some_iff.1 K_b.out).1
    have R_t := tx_row38 K_t.out
    have S_t := (Array.getElem?_eq_some_iff.1 K_t.out).1
    go_wp2_with fail
    have L2 := one_L L'.out
    have hA : Below w1.heap.size w1 (w1.alloc (.cells (txC t).toArray 41)) := (Below.refl _ _).alloc (Nat.le_refl _) _
    clear R_t
    clear S_t
    clear R_b
    clear S_b
    replace K_b := Box.mk (keepBlock hA K_b.out)
    replace K_t := Box.mk (keepBlock hA K_t.out)
    replace L := Box.mk (L.out.below hA)
    replace L' := Box.mk (L'.out.below hA)
    replace BW := Box.mk (BW.out.trans (hA.mono BW.out.size))
    clear hA
    have hsz1 : (w1.alloc (.cells (txC t).toArray 41)).heap.size = w1.heap.size + 1 := by simp
    generalize w1.alloc (.cells (txC t).toArray 41) = wt at *
    replace hsz1 := Box.mk hsz1
    refine (heavy06_any _ _ _ _ L2).mono ?_
    rintro e2 w2 ⟨rfl, b2⟩
    rw [ha2]
    clear L2
    replace K_b := Box.mk (keepBlock b2 K_b.out)
    replace K_t := Box.mk (keepBlock b2 K_t.out)
    replace L := Box.mk (L.out.below b2)
    replace L' := Box.mk (L'.out.below b2)
    replace BW := Box.mk (BW.out.trans (b2.mono BW.out.size))
    go_wp2_with fail
    refine (shown06_any _).mono ?_
    rintro e3 ws ⟨rfl, bs⟩
    replace BW := Box.mk (BW.out.trans (bs.mono BW.out.size))
    go_wp2
    go_ret
    exact gives_bool rfl BW.out
  · have R_b := blk_row K_b.out
    have S_b := (Array.getElem?_eq_some_iff.1 K_b.out).1
    have R_t := tx_row38 K_t.out
    have S_t := (Array.getElem?_eq_some_iff.1 K_t.out).1
    go_enter Try.func12, Try.ntmps12
    go_wp2_with fail
    generalize (W.alloc (.cells (blkC v).toArray 50)).alloc (.cells (txC t).toArray 41) = w0 at *
    refine (heavy06_any v qs d _ L.out).mono ?_
    rintro e1 w1 ⟨rfl, b1⟩
    rw [ha]
    clear R_t
    clear S_t
    clear R_b
    clear S_b
    replace K_b := Box.mk (keepBlock b1 K_b.out)
    replace K_t := Box.mk (keepBlock b1 K_t.out)
    replace L := Box.mk (L.out.below b1)
    replace L' := Box.mk (L'.out.below b1)
    replace BW := Box.mk (BW.out.trans (b1.mono BW.out.size))
    have R_b := blk_row K_b.out
    have S_b := (Array.getElem?_eq_some_iff.1 K_b.out).1
    have R_t := tx_row38 K_t.out
    have S_t := (Array.getElem?_eq_some_iff.1 K_t.out).1
    go_wp2_with fail
    have L2 := one_L L'.out
    have hA : Below w1.heap.size w1 (w1.alloc (.cells (txC t).toArray 41)) := (Below.refl _ _).alloc (Nat.le_refl _) _
    clear R_t
    clear S_t
    clear R_b
    clear S_b
    replace K_b := Box.mk (keepBlock hA K_b.out)
    replace K_t := Box.mk (keepBlock hA K_t.out)
    replace L := Box.mk (L.out.below hA)
    replace L' := Box.mk (L'.out.below hA)
    replace BW := Box.mk (BW.out.trans (hA.mono BW.out.size))
    clear hA
    have hsz1 : (w1.alloc (.cells (txC t).toArray 41)).heap.size = w1.heap.size + 1 := by simp
    generalize w1.alloc (.cells (txC t).toArray 41) = wt at *
    replace hsz1 := Box.mk hsz1
    refine (heavy06_any _ _ _ _ L2).mono ?_
    rintro e2 w2 ⟨rfl, b2⟩
    rw [ha2]
    clear L2
    replace K_b := Box.mk (keepBlock b2 K_b.out)
    replace K_t := Box.mk (keepBlock b2 K_t.out)
    replace L := Box.mk (L.out.below b2)
    replace L' := Box.mk (L'.out.below b2)
    replace BW := Box.mk (BW.out.trans (b2.mono BW.out.size))
    have R_b := blk_row K_b.out
    have S_b := (Array.getElem?_eq_some_iff.1 K_b.out).1
    have R_t := tx_row38 K_t.out
    have S_t := (Array.getElem?_eq_some_iff.1 K_t.out).1
    go_wp2_with fail
    refine (shown06_any _).mono ?_
    rintro e3 w3 ⟨rfl, b3⟩
    clear R_t
    clear S_t
    clear R_b
    clear S_b
    replace K_b := Box.mk (keepBlock b3 K_b.out)
    replace K_t := Box.mk (keepBlock b3 K_t.out)
    replace L := Box.mk (L.out.below b3)
    replace L' := Box.mk (L'.out.below b3)
    replace BW := Box.mk (BW.out.trans (b3.mono BW.out.size))
    have R_b := blk_row K_b.out
    have S_b := (Array.getElem?_eq_some_iff.1 K_b.out).1
    have hk := Box.mk (hvB_ok ha)
    obtain ⟨s, x, hE⟩ : ∃ s x, blkV d = (s, x) := ⟨_, _, rfl⟩
    obtain ⟨k, y, hN⟩ : ∃ s x, nameB d = (s, x) := ⟨_, _, rfl⟩
    replace hE := Box.mk hE
    replace hN := Box.mk hN
    go_wp2_with fail
    refine (bencode_any v qs d _ L.out hk.out).mono ?_
    rintro e4 w4 ⟨rfl, b4⟩
    rw [hE.out]
    unfold valE
    clear R_b
    clear S_b
    replace K_b := Box.mk (keepBlock b4 K_b.out)
    replace K_t := Box.mk (keepBlock b4 K_t.out)
    replace L := Box.mk (L.out.below b4)
    replace L' := Box.mk (L'.out.below b4)
    replace BW := Box.mk (BW.out.trans (b4.mono BW.out.size))
    have R_b := blk_row K_b.out
    have S_b := (Array.getElem?_eq_some_iff.1 K_b.out).1
    go_wp2_with fail
    refine (renc6_any v qs d _ L.out).mono ?_
    rintro e5 w5 ⟨rfl, b5⟩
    rw [hE.out]
    unfold valE
    clear R_b
    clear S_b
    replace K_b := Box.mk (keepBlock b5 K_b.out)
    replace K_t := Box.mk (keepBlock b5 K_t.out)
    replace L := Box.mk (L.out.below b5)
    replace L' := Box.mk (L'.out.below b5)
    replace BW := Box.mk (BW.out.trans (b5.mono BW.out.size))
    have R_b := blk_row K_b.out
    have S_b := (Array.getElem?_eq_some_iff.1 K_b.out).1
    go_wp2_with fail
    refine (bid_any v qs d _ L.out hk.out).mono ?_
    rintro e6 w6 ⟨rfl, b6⟩
    rw [hN.out]
    unfold valNm
    clear R_b
    clear S_b
    replace K_b := Box.mk (keepBlock b6 K_b.out)
    replace K_t := Box.mk (keepBlock b6 K_t.out)
    replace L := Box.mk (L.out.below b6)
    replace L' := Box.mk (L'.out.below b6)
    replace BW := Box.mk (BW.out.trans (b6.mono BW.out.size))
    have R_b := blk_row K_b.out
    have S_b := (Array.getElem?_eq_some_iff.1 K_b.out).1
    go_wp2_with fail
    have hA : Below w6.heap.size w6 (w6.alloc (.cells (keyC k).toArray 38)) := (Below.refl _ _).alloc (Nat.le_refl _) _
    have hKn := heap_alloc_new w6 (.cells (keyC k).toArray 38)
    clear R_b
    clear S_b
    replace K_b := Box.mk (keepBlock hA K_b.out)
    replace K_t := Box.mk (keepBlock hA K_t.out)
    replace L := Box.mk (L.out.below hA)
    replace L' := Box.mk (L'.out.below hA)
    replace BW := Box.mk (BW.out.trans (hA.mono BW.out.size))
    have K_k1 := Box.mk hKn
    clear hKn
    have hsz_w7 : (w6.alloc (.cells (keyC k).toArray 38)).heap.size = w6.heap.size + 1 := by simp
    clear hA
    generalize w6.alloc (.cells (keyC k).toArray 38) = w7 at *
    replace hsz_w7 := Box.mk hsz_w7
    have R_b := blk_row K_b.out
    have S_b := (Array.getElem?_eq_some_iff.1 K_b.out).1
    refine (rid6_any v qs d _ L.out hk.out).mono ?_
    rintro e8 w8 ⟨rfl, b8⟩
    rw [hN.out]
    unfold valNm
    clear R_b
    clear S_b
    replace K_b := Box.mk (keepBlock b8 K_b.out)
    replace K_t := Box.mk (keepBlock b8 K_t.out)
    replace K_k1 := Box.mk (keepBlock b8 K_k1.out)
    replace L := Box.mk (L.out.below b8)
    replace L' := Box.mk (L'.out.below b8)
    replace BW := Box.mk (BW.out.trans (b8.mono BW.out.size))
    have R_b := blk_row K_b.out
    have S_b := (Array.getElem?_eq_some_iff.1 K_b.out).1
    have R_t := tx_row38 K_t.out
    have S_t := (Array.getElem?_eq_some_iff.1 K_t.out).1
    have R_k1 := key_rowOf K_k1.out
    have S_k1 := (Array.getElem?_eq_some_iff.1 K_k1.out).1
    go_wp2_with fail
    have hA : Below w8.heap.size w8 (w8.alloc (.cells (keyC k).toArray 38)) := (Below.refl _ _).alloc (Nat.le_refl _) _
    have hKn := heap_alloc_new w8 (.cells (keyC k).toArray 38)
    clear R_k1
    clear S_k1
    clear R_t
    clear S_t
    clear R_b
    clear S_b
    replace K_b := Box.mk (keepBlock hA K_b.out)
    replace K_t := Box.mk (keepBlock hA K_t.out)
    replace K_k1 := Box.mk (keepBlock hA K_k1.out)
    replace L := Box.mk (L.out.below hA)
    replace L' := Box.mk (L'.out.below hA)
    replace BW := Box.mk (BW.out.trans (hA.mono BW.out.size))
    have K_k2 := Box.mk hKn
    clear hKn
    have hsz_w9 : (w8.alloc (.cells (keyC k).toArray 38)).heap.size = w8.heap.size + 1 := by simp
    clear hA
    generalize w8.alloc (.cells (keyC k).toArray 38) = w9 at *
    replace hsz_w9 := Box.mk hsz_w9
    have hall : ∀ w', SinceP w9 w' → (rowOf w' W.heap.size 0 66 = some (blkC v) ∧ rowOf w' (W.heap.size + 1) 0 38 = some (txC t) ∧ rowOf w' w6.heap.size 0 32 = some (keyC k) ∧ rowOf w' w8.heap.size 0 32 = some (keyC k)) := fun w' h =>
      ⟨blk_row (keepBlock h.out K_b.out), tx_row38 (keepBlock h.out K_t.out), key_rowOf (keepBlock h.out K_k1.out), key_rowOf (keepBlock h.out K_k2.out)⟩
    have hlv := Box.mk (show (notesL d.txs).length ≤ 100000 by { have h1 := notesL_le d.txs hk.out.2; have h2 := hk.out.1; omega })
    obtain ⟨sg, hsg⟩ : ∃ c, sigsN d.txs = c := ⟨_, rfl⟩
    obtain ⟨ez, hez⟩ : ∃ c, (encV e).1.length = c := ⟨_, rfl⟩
    replace hsg := Box.mk hsg
    replace hez := Box.mk hez
    refine hreg_begin (S := SinceP w9) (by kernel_rfl) (SinceP.refl _).drew (fun hHeld => ?_)
    simp only [List.length_cons, List.length_nil, Nat.zero_add, Nat.reduceAdd, Array.replicate]
    refine hreg_take (i := 0) rfl (by kernel_rfl) (by kernel_rfl) (by kernel_rfl) hreg_panic (by rfl) hHeld ?_
    apply Exists.intro
    refine ⟨fun w' hw' => ?_, ?_⟩
    · have hf := hall w' hw'
      go_simp
      try go_bits
      exact yieldsV_mk rfl
    simp only [Act.put, List.setIfInBounds_toArray, List.set_cons_zero, List.set_cons_succ]
    refine hreg_take (i := 1) rfl (by kernel_rfl) (by kernel_rfl) (by kernel_rfl) hreg_panic (by rfl) hHeld ?_
    apply Exists.intro
    refine ⟨fun w' hw' => ?_, ?_⟩
    · have hf := hall w' hw'
      go_simp
      try go_bits
      exact yieldsV_mk rfl
    simp only [Act.put, List.setIfInBounds_toArray, List.set_cons_zero, List.set_cons_succ]
    refine hreg_take (i := 2) rfl (by kernel_rfl) (by kernel_rfl) (by kernel_rfl) hreg_panic (by rfl) hHeld ?_
    apply Exists.intro
    refine ⟨fun w' hw' => ?_, ?_⟩
    · have hf := hall w' hw'
      go_simp
      try go_bits
      exact yieldsV_mk rfl
    simp only [Act.put, List.setIfInBounds_toArray, List.set_cons_zero, List.set_cons_succ]
    refine hreg_take (i := 3) rfl (by kernel_rfl) (by kernel_rfl) (by kernel_rfl) hreg_panic (by rfl) hHeld ?_
    apply Exists.intro
    refine ⟨fun w' hw' => ?_, ?_⟩
    · have hf := hall w' hw'
      go_simp
      try go_bits
      exact yieldsV_mk rfl
    simp only [Act.put, List.setIfInBounds_toArray, List.set_cons_zero, List.set_cons_succ]
    refine hreg_take (i := 4) rfl (by kernel_rfl) (by kernel_rfl) (by kernel_rfl) hreg_panic (by rfl) hHeld ?_
    apply Exists.intro
    refine ⟨fun w' hw' => ?_, ?_⟩
    · have hf := hall w' hw'
      go_simp
      try go_bits
      exact yieldsV_mk rfl
    simp only [Act.put, List.setIfInBounds_toArray, List.set_cons_zero, List.set_cons_succ]
    refine hreg_take (i := 5) rfl (by kernel_rfl) (by kernel_rfl) (by kernel_rfl) hreg_panic (by rfl) hHeld ?_
    apply Exists.intro
    refine ⟨fun w' hw' => ?_, ?_⟩
    · have hf := hall w' hw'
      go_simp
      try go_bits
      exact yieldsV_mk rfl
    simp only [Act.put, List.setIfInBounds_toArray, List.set_cons_zero, List.set_cons_succ]
    refine hreg_take (i := 6) rfl (by kernel_rfl) (by kernel_rfl) (by kernel_rfl) hreg_panic (by rfl) hHeld ?_
    apply Exists.intro
    refine ⟨fun w' hw' => ?_, ?_⟩
    · have hf := hall w' hw'
      go_simp
      try go_bits
      exact yieldsV_mk rfl
    simp only [Act.put, List.setIfInBounds_toArray, List.set_cons_zero, List.set_cons_succ]
    refine hreg_take (i := 7) rfl (by kernel_rfl) (by kernel_rfl) (by kernel_rfl) hreg_panic (by rfl) hHeld ?_
    apply Exists.intro
    refine ⟨fun w' hw' => ?_, ?_⟩
    · have hf := hall w' hw'
      go_simp
      try go_bits
      exact yieldsV_mk rfl
    simp only [Act.put, List.setIfInBounds_toArray, List.set_cons_zero, List.set_cons_succ]
    refine hreg_take (i := 8) rfl (by kernel_rfl) (by kernel_rfl) (by kernel_rfl) hreg_panic (by rfl) hHeld ?_
    apply Exists.intro
    refine ⟨fun w' hw' => ?_, ?_⟩
    · have hf := hall w' hw'
      go_simp
      try go_bits
      exact yieldsV_mk rfl
    simp only [Act.put, List.setIfInBounds_toArray, List.set_cons_zero, List.set_cons_succ]
    refine hreg_take (i := 9) rfl (by kernel_rfl) (by kernel_rfl) (by kernel_rfl) hreg_panic (by rfl) hHeld ?_
    apply Exists.intro
    refine ⟨fun w' hw' => ?_, ?_⟩
    · have hf := hall w' hw'
      go_simp
      try go_bits
      exact yieldsV_mk rfl
    simp only [Act.put, List.setIfInBounds_toArray, List.set_cons_zero, List.set_cons_succ]
    refine hreg_take (i := 10) rfl (by kernel_rfl) (by kernel_rfl) (by kernel_rfl) hreg_panic (by rfl) hHeld ?_
    apply Exists.intro
    refine ⟨fun w' hw' => ?_, ?_⟩
    · have hf := hall w' hw'
      go_simp
      try go_bits
      exact yieldsV_mk rfl
    simp only [Act.put, List.setIfInBounds_toArray, List.set_cons_zero, List.set_cons_succ]
    refine hreg_take (i := 11) rfl (by kernel_rfl) (by kernel_rfl) (by kernel_rfl) hreg_panic (by rfl) hHeld ?_
    apply Exists.intro
    refine ⟨fun w' hw' => ?_, ?_⟩
    · have hf := hall w' hw'
      go_simp
      try go_bits
      exact yieldsV_mk rfl
    simp only [Act.put, List.setIfInBounds_toArray, List.set_cons_zero, List.set_cons_succ]
    refine hreg_take (i := 12) rfl (by kernel_rfl) (by kernel_rfl) (by kernel_rfl) hreg_panic (by rfl) hHeld ?_
    apply Exists.intro
    refine ⟨fun w' hw' => ?_, ?_⟩
    · have hf := hall w' hw'
      go_simp
      try go_bits
      exact yieldsV_mk rfl
    simp only [Act.put, List.setIfInBounds_toArray, List.set_cons_zero, List.set_cons_succ]
    refine hreg_take (i := 13) rfl (by kernel_rfl) (by kernel_rfl) (by kernel_rfl) hreg_panic (by rfl) hHeld ?_
    apply Exists.intro
    refine ⟨fun w' hw' => ?_, ?_⟩
    · have hf := hall w' hw'
      go_simp
      try go_bits
      exact yieldsV_mk rfl
    simp only [Act.put, List.setIfInBounds_toArray, List.set_cons_zero, List.set_cons_succ]
    refine hreg_take (i := 14) rfl (by kernel_rfl) (by kernel_rfl) (by kernel_rfl) hreg_panic (by rfl) hHeld ?_
    apply Exists.intro
    refine ⟨fun w' hw' => ?_, ?_⟩
    · have hf := hall w' hw'
      go_simp
      try go_bits
      exact yieldsV_mk rfl
    simp only [Act.put, List.setIfInBounds_toArray, List.set_cons_zero, List.set_cons_succ]
    refine hreg_take (i := 15) rfl (by kernel_rfl) (by kernel_rfl) (by kernel_rfl) hreg_panic (by rfl) hHeld ?_
    apply Exists.intro
    refine ⟨fun w' hw' => ?_, ?_⟩
    · have hf := hall w' hw'
      go_simp
      try go_bits
      exact yieldsV_mk rfl
    simp only [Act.put, List.setIfInBounds_toArray, List.set_cons_zero, List.set_cons_succ]
    refine hreg_take (i := 16) rfl (by kernel_rfl) (by kernel_rfl) (by kernel_rfl) hreg_panic (by rfl) hHeld ?_
    apply Exists.intro
    refine ⟨fun w' hw' => ?_, ?_⟩
    · have hf := hall w' hw'
      go_simp
      try go_bits
      exact yieldsV_mk rfl
    simp only [Act.put, List.setIfInBounds_toArray, List.set_cons_zero, List.set_cons_succ]
    refine hreg_take (i := 17) rfl (by kernel_rfl) (by kernel_rfl) (by kernel_rfl) hreg_panic (by rfl) hHeld ?_
    apply Exists.intro
    refine ⟨fun w' hw' => ?_, ?_⟩
    · have hf := hall w' hw'
      go_simp
      try go_bits
      exact yieldsV_mk rfl
    simp only [Act.put, List.setIfInBounds_toArray, List.set_cons_zero, List.set_cons_succ]
    refine hreg_take (i := 18) rfl (by kernel_rfl) (by kernel_rfl) (by kernel_rfl) hreg_panic (by rfl) hHeld ?_
    apply Exists.intro
    refine ⟨fun w' hw' => ?_, ?_⟩
    · have hf := hall w' hw'
      go_simp
      try go_bits
      exact yieldsV_mk rfl
    simp only [Act.put, List.setIfInBounds_toArray, List.set_cons_zero, List.set_cons_succ]
    refine hreg_take (i := 19) rfl (by kernel_rfl) (by kernel_rfl) (by kernel_rfl) hreg_panic (by rfl) hHeld ?_
    apply Exists.intro
    refine ⟨fun w' hw' => ?_, ?_⟩
    · have hf := hall w' hw'
      go_simp
      try go_bits
      exact yieldsV_mk rfl
    simp only [Act.put, List.setIfInBounds_toArray, List.set_cons_zero, List.set_cons_succ]
    refine hreg_take (i := 21) rfl (by kernel_rfl) (by kernel_rfl) (by kernel_rfl) hreg_panic (by rfl) hHeld ?_
    apply Exists.intro
    refine ⟨fun w' hw' => ?_, ?_⟩
    · have hf := hall w' hw'
      go_simp
      try go_bits
      exact yieldsV_mk rfl
    simp only [Act.put, List.setIfInBounds_toArray, List.set_cons_zero, List.set_cons_succ]
    refine wpAnyH_ready (rs := [20]) (by kernel_rfl) (by simp) ?_
    refine hreg_event (o := _) rfl (by rfl) (fun K hK => ?_) ?_
    · go_simp
      first
        | (go_at_call 29; refine (notes_any v qs d _ (L.out.below (Below.refl _ _).drew) hk.out).mono ?_; rintro e wa ⟨⟨na, nn, nc, rfl, hN1⟩, hb⟩)
        | (go_at_call 31; refine (sigs_any v qs d _ (L.out.below hHeld.out) hk.out).mono ?_; rw [hsg.out]; rintro e wn ⟨rfl, hb⟩)
        | (go_at_call 39; refine (rsigs6_any v qs d _ (L.out.below hHeld.out) hk.out).mono ?_; rw [hsg.out]; rintro e wn ⟨rfl, hb⟩)
        | (go_at_call 28; refine (bsize_any t e _ (L'.out.below hHeld.out)).mono ?_; rw [hez.out]; rintro e wn ⟨rfl, hb⟩)
        | (go_at_call 24; refine (rsize6_any t e _ (L'.out.below hHeld.out)).mono ?_; rw [hez.out]; rintro e wn ⟨rfl, hb⟩)
        | skip
      refine hK.out _ _ ?_ (fun hHeld' => ?_)
      · first
          | exact hHeld.next hb
          | exact hHeld.next hb
          | exact hHeld
          | exact hHeld.alloc _
          | exact hHeld.setCell (by simp <;> omega) _
          | exact (hHeld.alloc _).alloc _
      replace hHeld := hHeld'
      clear hHeld' hK K
      simp only [Act.put, List.setIfInBounds_toArray, List.set_cons_zero, List.set_cons_succ]
      refine wpAnyH_ready (rs := [22]) (by kernel_rfl) (by simp) ?_
      refine hreg_event (o := _) rfl (by rfl) (fun K hK => ?_) ?_
      · go_simp
        first
          | (go_at_call 38; refine (rnotes6_any v qs d _ (L.out.below hHeld.out) hk.out).mono ?_; rintro e wb ⟨⟨ma, mn, mc, rfl, hN2⟩, hb⟩; replace hN1 := hN1.below hb)
          | (go_at_call 31; refine (sigs_any v qs d _ (L.out.below hHeld.out) hk.out).mono ?_; rw [hsg.out]; rintro e wn ⟨rfl, hb⟩)
          | (go_at_call 39; refine (rsigs6_any v qs d _ (L.out.below hHeld.out) hk.out).mono ?_; rw [hsg.out]; rintro e wn ⟨rfl, hb⟩)
          | (go_at_call 28; refine (bsize_any t e _ (L'.out.below hHeld.out)).mono ?_; rw [hez.out]; rintro e wn ⟨rfl, hb⟩)
          | (go_at_call 24; refine (rsize6_any t e _ (L'.out.below hHeld.out)).mono ?_; rw [hez.out]; rintro e wn ⟨rfl, hb⟩)
          | skip
        refine hK.out _ _ ?_ (fun hHeld' => ?_)
        · first
            | exact hHeld.next hb
            | exact hHeld.next hb
            | exact hHeld
            | exact hHeld.alloc _
            | exact hHeld.setCell (by simp <;> omega) _
            | exact (hHeld.alloc _).alloc _
        replace hHeld := hHeld'
        clear hHeld' hK K
        simp only [Act.put, List.setIfInBounds_toArray, List.set_cons_zero, List.set_cons_succ]
        refine wpAnyH_ready (rs := [23]) (by kernel_rfl) (by simp) ?_
        refine hreg_event (o := _) rfl (by rfl) (fun K hK => ?_) ?_
        · go_simp
          first
            | (go_at_call 30; refine (sameK_any na ma nn mn nc mc _ _ wb hN1 hN2 (by rw [hN1.1]; exact hlv.out)).mono ?_; rw [beq_self_eq_true]; rintro e wc ⟨rfl, hb⟩; replace hN1 := Box.mk hN1; replace hN2 := Box.mk hN2)
            | (go_at_call 31; refine (sigs_any v qs d _ (L.out.below hHeld.out) hk.out).mono ?_; rw [hsg.out]; rintro e wn ⟨rfl, hb⟩)
            | (go_at_call 39; refine (rsigs6_any v qs d _ (L.out.below hHeld.out) hk.out).mono ?_; rw [hsg.out]; rintro e wn ⟨rfl, hb⟩)
            | (go_at_call 28; refine (bsize_any t e _ (L'.out.below hHeld.out)).mono ?_; rw [hez.out]; rintro e wn ⟨rfl, hb⟩)
            | (go_at_call 24; refine (rsize6_any t e _ (L'.out.below hHeld.out)).mono ?_; rw [hez.out]; rintro e wn ⟨rfl, hb⟩)
            | skip
          refine hK.out _ _ ?_ (fun hHeld' => ?_)
          · first
              | exact hHeld.next hb
              | exact hHeld.next hb
              | exact hHeld
              | exact hHeld.alloc _
              | exact hHeld.setCell (by simp <;> omega) _
              | exact (hHeld.alloc _).alloc _
          replace hHeld := hHeld'
          clear hHeld' hK K
          simp only [Act.put, List.setIfInBounds_toArray, List.set_cons_zero, List.set_cons_succ]
          refine hreg_take (i := 24) rfl (by kernel_rfl) (by kernel_rfl) (by kernel_rfl) hreg_panic (by rfl) hHeld ?_
          apply Exists.intro
          refine ⟨fun w' hw' => ?_, ?_⟩
          · have hf := hall w' hw'
            go_simp
            try go_bits
            exact yieldsV_mk rfl
          simp only [Act.put, List.setIfInBounds_toArray, List.set_cons_zero, List.set_cons_succ]
          refine hreg_take (i := 25) rfl (by kernel_rfl) (by kernel_rfl) (by kernel_rfl) hreg_panic (by rfl) hHeld ?_
          apply Exists.intro
          refine ⟨fun w' hw' => ?_, ?_⟩
          · have hf := hall w' hw'
            go_simp
            try go_bits
            exact yieldsV_mk rfl
          simp only [Act.put, List.setIfInBounds_toArray, List.set_cons_zero, List.set_cons_succ]
          refine hreg_take (i := 26) rfl (by kernel_rfl) (by kernel_rfl) (by kernel_rfl) hreg_panic (by rfl) hHeld ?_
          apply Exists.intro
          refine ⟨fun w' hw' => ?_, ?_⟩
          · have hf := hall w' hw'
            go_simp
            try go_bits
            exact yieldsV_mk rfl
          simp only [Act.put, List.setIfInBounds_toArray, List.set_cons_zero, List.set_cons_succ]
          refine hreg_take (i := 28) rfl (by kernel_rfl) (by kernel_rfl) (by kernel_rfl) hreg_panic (by rfl) hHeld ?_
          apply Exists.intro
          refine ⟨fun w' hw' => ?_, ?_⟩
          · have hf := hall w' hw'
            go_simp
            try go_bits
            exact yieldsV_mk rfl
          simp only [Act.put, List.setIfInBounds_toArray, List.set_cons_zero, List.set_cons_succ]
          refine wpAnyH_ready (rs := [27]) (by kernel_rfl) (by simp) ?_
          refine hreg_event (o := _) rfl (by rfl) (fun K hK => ?_) ?_
          · go_simp
            first
              | (go_at_call 31; refine (sigs_any v qs d _ (L.out.below hHeld.out) hk.out).mono ?_; rw [hsg.out]; rintro e wn ⟨rfl, hb⟩)
              | (go_at_call 39; refine (rsigs6_any v qs d _ (L.out.below hHeld.out) hk.out).mono ?_; rw [hsg.out]; rintro e wn ⟨rfl, hb⟩)
              | (go_at_call 28; refine (bsize_any t e _ (L'.out.below hHeld.out)).mono ?_; rw [hez.out]; rintro e wn ⟨rfl, hb⟩)
              | (go_at_call 24; refine (rsize6_any t e _ (L'.out.below hHeld.out)).mono ?_; rw [hez.out]; rintro e wn ⟨rfl, hb⟩)
              | skip
            refine hK.out _ _ ?_ (fun hHeld' => ?_)
            · first
                | exact hHeld.next hb
                | exact hHeld.next hb
                | exact hHeld
                | exact hHeld.alloc _
                | exact hHeld.setCell (by simp <;> omega) _
                | exact (hHeld.alloc _).alloc _
            replace hHeld := hHeld'
            clear hHeld' hK K
            simp only [Act.put, List.setIfInBounds_toArray, List.set_cons_zero, List.set_cons_succ]
            refine wpAnyH_ready (rs := [29]) (by kernel_rfl) (by simp) ?_
            refine hreg_event (o := _) rfl (by rfl) (fun K hK => ?_) ?_
            · go_simp
              first
                | (go_at_call 31; refine (sigs_any v qs d _ (L.out.below hHeld.out) hk.out).mono ?_; rw [hsg.out]; rintro e wn ⟨rfl, hb⟩)
                | (go_at_call 39; refine (rsigs6_any v qs d _ (L.out.below hHeld.out) hk.out).mono ?_; rw [hsg.out]; rintro e wn ⟨rfl, hb⟩)
                | (go_at_call 28; refine (bsize_any t e _ (L'.out.below hHeld.out)).mono ?_; rw [hez.out]; rintro e wn ⟨rfl, hb⟩)
                | (go_at_call 24; refine (rsize6_any t e _ (L'.out.below hHeld.out)).mono ?_; rw [hez.out]; rintro e wn ⟨rfl, hb⟩)
                | skip
              refine hK.out _ _ ?_ (fun hHeld' => ?_)
              · first
                  | exact hHeld.next hb
                  | exact hHeld.next hb
                  | exact hHeld
                  | exact hHeld.alloc _
                  | exact hHeld.setCell (by simp <;> omega) _
                  | exact (hHeld.alloc _).alloc _
              replace hHeld := hHeld'
              clear hHeld' hK K
              simp only [Act.put, List.setIfInBounds_toArray, List.set_cons_zero, List.set_cons_succ]
              refine hreg_take (i := 30) rfl (by kernel_rfl) (by kernel_rfl) (by kernel_rfl) hreg_panic (by rfl) hHeld ?_
              apply Exists.intro
              refine ⟨fun w' hw' => ?_, ?_⟩
              · have hf := hall w' hw'
                go_simp
                try go_bits
                exact yieldsV_mk rfl
              simp only [Act.put, List.setIfInBounds_toArray, List.set_cons_zero, List.set_cons_succ]
              refine hreg_take (i := 31) rfl (by kernel_rfl) (by kernel_rfl) (by kernel_rfl) hreg_panic (by rfl) hHeld ?_
              apply Exists.intro
              refine ⟨fun w' hw' => ?_, ?_⟩
              · have hf := hall w' hw'
                go_simp
                try go_bits
                exact yieldsV_mk rfl
              simp only [Act.put, List.setIfInBounds_toArray, List.set_cons_zero, List.set_cons_succ]
              refine hreg_take (i := 32) rfl (by kernel_rfl) (by kernel_rfl) (by kernel_rfl) hreg_panic (by rfl) hHeld ?_
              apply Exists.intro
              refine ⟨fun w' hw' => ?_, ?_⟩
              · have hf := hall w' hw'
                go_simp
                try go_bits
                exact yieldsV_mk rfl
              simp only [Act.put, List.setIfInBounds_toArray, List.set_cons_zero, List.set_cons_succ]
              refine hreg_take (i := 33) rfl (by kernel_rfl) (by kernel_rfl) (by kernel_rfl) hreg_panic (by rfl) hHeld ?_
              apply Exists.intro
              refine ⟨fun w' hw' => ?_, ?_⟩
              · have hf := hall w' hw'
                go_simp
                try go_bits
                exact yieldsV_mk rfl
              simp only [Act.put, List.setIfInBounds_toArray, List.set_cons_zero, List.set_cons_succ]
              refine hreg_take (i := 35) rfl (by kernel_rfl) (by kernel_rfl) (by kernel_rfl) hreg_panic (by rfl) hHeld ?_
              apply Exists.intro
              refine ⟨fun w' hw' => ?_, ?_⟩
              · have hf := hall w' hw'
                go_simp
                try go_bits
                exact yieldsV_mk rfl
              simp only [Act.put, List.setIfInBounds_toArray, List.set_cons_zero, List.set_cons_succ]
              refine wpAnyH_ready (rs := [34]) (by kernel_rfl) (by simp) ?_
              refine hreg_event (o := _) rfl (by rfl) (fun K hK => ?_) ?_
              · go_simp
                first
                  | (go_at_call 31; refine (sigs_any v qs d _ (L.out.below hHeld.out) hk.out).mono ?_; rw [hsg.out]; rintro e wn ⟨rfl, hb⟩)
                  | (go_at_call 39; refine (rsigs6_any v qs d _ (L.out.below hHeld.out) hk.out).mono ?_; rw [hsg.out]; rintro e wn ⟨rfl, hb⟩)
                  | (go_at_call 28; refine (bsize_any t e _ (L'.out.below hHeld.out)).mono ?_; rw [hez.out]; rintro e wn ⟨rfl, hb⟩)
                  | (go_at_call 24; refine (rsize6_any t e _ (L'.out.below hHeld.out)).mono ?_; rw [hez.out]; rintro e wn ⟨rfl, hb⟩)
                  | skip
                refine hK.out _ _ ?_ (fun hHeld' => ?_)
                · first
                    | exact hHeld.next hb
                    | exact hHeld.next hb
                    | exact hHeld
                    | exact hHeld.alloc _
                    | exact hHeld.setCell (by simp <;> omega) _
                    | exact (hHeld.alloc _).alloc _
                replace hHeld := hHeld'
                clear hHeld' hK K
                simp only [Act.put, List.setIfInBounds_toArray, List.set_cons_zero, List.set_cons_succ]
                refine wpAnyH_ready (rs := [36]) (by kernel_rfl) (by simp) ?_
                refine hreg_event (o := _) rfl (by rfl) (fun K hK => ?_) ?_
                · go_simp
                  first
                    | (go_at_call 31; refine (sigs_any v qs d _ (L.out.below hHeld.out) hk.out).mono ?_; rw [hsg.out]; rintro e wn ⟨rfl, hb⟩)
                    | (go_at_call 39; refine (rsigs6_any v qs d _ (L.out.below hHeld.out) hk.out).mono ?_; rw [hsg.out]; rintro e wn ⟨rfl, hb⟩)
                    | (go_at_call 28; refine (bsize_any t e _ (L'.out.below hHeld.out)).mono ?_; rw [hez.out]; rintro e wn ⟨rfl, hb⟩)
                    | (go_at_call 24; refine (rsize6_any t e _ (L'.out.below hHeld.out)).mono ?_; rw [hez.out]; rintro e wn ⟨rfl, hb⟩)
                    | skip
                  refine hK.out _ _ ?_ (fun hHeld' => ?_)
                  · first
                      | exact hHeld.next hb
                      | exact hHeld.next hb
                      | exact hHeld
                      | exact hHeld.alloc _
                      | exact hHeld.setCell (by simp <;> omega) _
                      | exact (hHeld.alloc _).alloc _
                  replace hHeld := hHeld'
                  clear hHeld' hK K
                  simp only [Act.put, List.setIfInBounds_toArray, List.set_cons_zero, List.set_cons_succ]
                  refine hreg_take (i := 37) rfl (by kernel_rfl) (by kernel_rfl) (by kernel_rfl) hreg_panic (by rfl) hHeld ?_
                  apply Exists.intro
                  refine ⟨fun w' hw' => ?_, ?_⟩
                  · have hf := hall w' hw'
                    go_simp
                    try go_bits
                    exact yieldsV_mk rfl
                  simp only [Act.put, List.setIfInBounds_toArray, List.set_cons_zero, List.set_cons_succ]
                  refine hreg_take (i := 38) rfl (by kernel_rfl) (by kernel_rfl) (by kernel_rfl) hreg_panic (by rfl) hHeld ?_
                  apply Exists.intro
                  refine ⟨fun w' hw' => ?_, ?_⟩
                  · have hf := hall w' hw'
                    go_simp
                    try go_bits
                    exact yieldsV_mk rfl
                  simp only [Act.put, List.setIfInBounds_toArray, List.set_cons_zero, List.set_cons_succ]
                  refine hreg_take (i := 39) rfl (by kernel_rfl) (by kernel_rfl) (by kernel_rfl) hreg_panic (by rfl) hHeld ?_
                  apply Exists.intro
                  refine ⟨fun w' hw' => ?_, ?_⟩
                  · have hf := hall w' hw'
                    go_simp
                    try go_bits
                    exact yieldsV_mk rfl
                  simp only [Act.put, List.setIfInBounds_toArray, List.set_cons_zero, List.set_cons_succ]
                  refine wpAnyH_done (by kernel_rfl) ?_ _
                  refine NoPanic.normal ?_
                  have hfin := BW.out.trans (hHeld.out.mono BW.out.size)
                  go_wp2
                  go_ret
                  exact gives_bool rfl hfin
                exact AllReadyH.nil
              exact AllReadyH.nil
            exact AllReadyH.nil
          exact AllReadyH.nil
        exact AllReadyH.nil
      exact AllReadyH.nil
    exact AllReadyH.nil

end Go.Proofs.Ytahkiabpjfcfdaa
