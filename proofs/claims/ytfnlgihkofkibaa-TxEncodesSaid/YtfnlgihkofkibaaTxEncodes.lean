/- Layer 5: any transaction's bytes, and its name, are the document's, or its error. (printed by mktxenc.py) -/
import Derived.Test.YtfnlgihkofkibaaTxId
import Derived.Test.YtfnlgihkofkibaaRefSame
namespace Go.Proofs.Ytfnlgihkofkibaa
open Go.RowKit
set_option linter.unusedVariables false
set_option linter.unusedSimpArgs false
set_option maxRecDepth 100000
attribute [local irreducible] Int.lt Int.le
attribute [local go_sem ↓] load_key store_key alloc_key build0_key eq_key load_point store_point alloc_point load_out store_out alloc_out load_tx store_tx alloc_tx build0_tx
attribute [local go_sem] rowOf_drew rowOf_alloc_old rowOf_alloc_new canPut_drew canPut_alloc_old canPut_alloc_new setCells_alloc_new

theorem heavyB_false {t : TxV} (h : heavyB t = false) : t.ins.len ≤ 100000 ∧ t.outs.len ≤ 100000 ∧ t.nulls.len ≤ 100000 ∧ t.notes.len ≤ 100000 := by
  unfold heavyB at h
  simp only [Bool.or_eq_false_iff, decide_eq_false_iff_not] at h
  omega

set_option maxHeartbeats 8000000 in
theorem txEncodes_walk (t u : TxV) (d e : TxD) (W : World) (h : TxL W t d) (h' : TxL W u e) : Calls Try.prog 9 #[.agg (txC t).toArray, .agg (txC u).toArray] W (LawEnd W) := by
  have hB0 : Below W.heap.size W ((W.alloc (.cells (txC t).toArray 29)).alloc (.cells (txC u).toArray 29)) := ((Below.refl _ _).alloc (Nat.le_refl _) _).alloc (by simp) _
  obtain ⟨k1, k2⟩ := two_tx (W := W) (t := t) (u := u)
  have K_t := Box.mk k1
  have K_u := Box.mk k2
  have L := Box.mk (h.below hB0)
  have L' := Box.mk (h'.below hB0)
  have BW := Box.mk hB0
  clear h h' hB0 k1 k2
  have hA : (heavyB t = true) ∨ (heavyB t = false ∧ heavyB u = true) ∨ (heavyB t = false ∧ heavyB u = false) := by cases heavyB t <;> cases heavyB u <;> simp
  rcases hA with ha | ⟨ha, ha2⟩ | ⟨ha, ha2⟩

  · have R_t := tx_row38 K_t.out
    have S_t := (Array.getElem?_eq_some_iff.1 K_t.out).1
    have R_u := tx_row38 K_u.out
    have S_u := (Array.getElem?_eq_some_iff.1 K_u.out).1
    go_enter Try.func9, Try.ntmps9
    go_wp2_with fail
    generalize (W.alloc (.cells (txC t).toArray 29)).alloc (.cells (txC u).toArray 29) = w0 at *
    refine (heavy_any t _).mono ?_
    rintro e1 w1 ⟨rfl, b1⟩
    rw [ha]
    clear R_t
    clear S_t
    clear R_u
    clear S_u
    replace K_t := Box.mk (keepBlock b1 K_t.out)
    replace K_u := Box.mk (keepBlock b1 K_u.out)
    replace L := Box.mk (L.out.below b1)
    replace L' := Box.mk (L'.out.below b1)
    replace BW := Box.mk (BW.out.trans (b1.mono BW.out.size))
    have R_t := tx_row38 K_t.out
    have S_t := (Array.getElem?_eq_some_iff.1 K_t.out).1
    have R_u := tx_row38 K_u.out
    have S_u := (Array.getElem?_eq_some_iff.1 K_u.out).1
    go_wp2_with fail
    refine (shown05 _).mono ?_
    rintro e3 ws ⟨rfl, bs⟩
    clear R_t
    clear S_t
    clear R_u
    clear S_u
    replace BW := Box.mk (BW.out.trans (bs.mono BW.out.size))
    go_wp2
    go_ret
    exact gives_bool rfl BW.out
  · have R_t := tx_row38 K_t.out
    have S_t := (Array.getElem?_eq_some_iff.1 K_t.out).1
    have R_u := tx_row38 K_u.out
    have S_u := (Array.getElem?_eq_some_iff.1 K_u.out).1
    go_enter Try.func9, Try.ntmps9
    go_wp2_with fail
    generalize (W.alloc (.cells (txC t).toArray 29)).alloc (.cells (txC u).toArray 29) = w0 at *
    refine (heavy_any t _).mono ?_
    rintro e1 w1 ⟨rfl, b1⟩
    rw [ha]
    clear R_t
    clear S_t
    clear R_u
    clear S_u
    replace K_t := Box.mk (keepBlock b1 K_t.out)
    replace K_u := Box.mk (keepBlock b1 K_u.out)
    replace L := Box.mk (L.out.below b1)
    replace L' := Box.mk (L'.out.below b1)
    replace BW := Box.mk (BW.out.trans (b1.mono BW.out.size))
    have R_t := tx_row38 K_t.out
    have S_t := (Array.getElem?_eq_some_iff.1 K_t.out).1
    have R_u := tx_row38 K_u.out
    have S_u := (Array.getElem?_eq_some_iff.1 K_u.out).1
    go_wp2_with fail
    refine (heavy_any u _).mono ?_
    rintro e2 w2 ⟨rfl, b2⟩
    rw [ha2]
    clear R_t
    clear S_t
    clear R_u
    clear S_u
    replace K_t := Box.mk (keepBlock b2 K_t.out)
    replace K_u := Box.mk (keepBlock b2 K_u.out)
    replace L := Box.mk (L.out.below b2)
    replace L' := Box.mk (L'.out.below b2)
    replace BW := Box.mk (BW.out.trans (b2.mono BW.out.size))
    go_wp2_with fail
    refine (shown05 _).mono ?_
    rintro e3 ws ⟨rfl, bs⟩
    replace BW := Box.mk (BW.out.trans (bs.mono BW.out.size))
    go_wp2
    go_ret
    exact gives_bool rfl BW.out
  · have R_t := tx_row38 K_t.out
    have S_t := (Array.getElem?_eq_some_iff.1 K_t.out).1
    have R_u := tx_row38 K_u.out
    have S_u := (Array.getElem?_eq_some_iff.1 K_u.out).1
    go_enter Try.func9, Try.ntmps9
    go_wp2_with fail
    generalize (W.alloc (.cells (txC t).toArray 29)).alloc (.cells (txC u).toArray 29) = w0 at *
    refine (heavy_any t _).mono ?_
    rintro e1 w1 ⟨rfl, b1⟩
    rw [ha]
    clear R_t
    clear S_t
    clear R_u
    clear S_u
    replace K_t := Box.mk (keepBlock b1 K_t.out)
    replace K_u := Box.mk (keepBlock b1 K_u.out)
    replace L := Box.mk (L.out.below b1)
    replace L' := Box.mk (L'.out.below b1)
    replace BW := Box.mk (BW.out.trans (b1.mono BW.out.size))
    have R_t := tx_row38 K_t.out
    have S_t := (Array.getElem?_eq_some_iff.1 K_t.out).1
    have R_u := tx_row38 K_u.out
    have S_u := (Array.getElem?_eq_some_iff.1 K_u.out).1
    go_wp2_with fail
    refine (heavy_any u _).mono ?_
    rintro e2 w2 ⟨rfl, b2⟩
    rw [ha2]
    clear R_t
    clear S_t
    clear R_u
    clear S_u
    replace K_t := Box.mk (keepBlock b2 K_t.out)
    replace K_u := Box.mk (keepBlock b2 K_u.out)
    replace L := Box.mk (L.out.below b2)
    replace L' := Box.mk (L'.out.below b2)
    replace BW := Box.mk (BW.out.trans (b2.mono BW.out.size))
    have R_t := tx_row38 K_t.out
    have S_t := (Array.getElem?_eq_some_iff.1 K_t.out).1
    have R_u := tx_row38 K_u.out
    have S_u := (Array.getElem?_eq_some_iff.1 K_u.out).1
    go_wp2_with fail
    refine (shown05 _).mono ?_
    rintro e3 w3 ⟨rfl, b3⟩
    clear R_t
    clear S_t
    clear R_u
    clear S_u
    replace K_t := Box.mk (keepBlock b3 K_t.out)
    replace K_u := Box.mk (keepBlock b3 K_u.out)
    replace L := Box.mk (L.out.below b3)
    replace L' := Box.mk (L'.out.below b3)
    replace BW := Box.mk (BW.out.trans (b3.mono BW.out.size))
    have R_t := tx_row38 K_t.out
    have S_t := (Array.getElem?_eq_some_iff.1 K_t.out).1
    have hlt := heavyB_false ha
    replace hlt := Box.mk hlt
    obtain ⟨s, x, hE⟩ : ∃ s x, encV d = (s, x) := ⟨_, _, rfl⟩
    obtain ⟨k, y, hN⟩ : ∃ s x, nameV d = (s, x) := ⟨_, _, rfl⟩
    replace hE := Box.mk hE
    replace hN := Box.mk hN
    go_wp2_with fail
    refine (encode_any t d _ L.out).mono ?_
    rintro e4 w4 ⟨rfl, b4⟩
    rw [hE.out]
    unfold valE
    clear R_t
    clear S_t
    replace K_t := Box.mk (keepBlock b4 K_t.out)
    replace K_u := Box.mk (keepBlock b4 K_u.out)
    replace L := Box.mk (L.out.below b4)
    replace L' := Box.mk (L'.out.below b4)
    replace BW := Box.mk (BW.out.trans (b4.mono BW.out.size))
    have R_t := tx_row38 K_t.out
    have S_t := (Array.getElem?_eq_some_iff.1 K_t.out).1
    go_wp2_with fail
    refine (refEncode_any t d _ L.out).mono ?_
    rintro e5 w5 ⟨rfl, b5⟩
    rw [hE.out]
    unfold valE
    clear R_t
    clear S_t
    replace K_t := Box.mk (keepBlock b5 K_t.out)
    replace K_u := Box.mk (keepBlock b5 K_u.out)
    replace L := Box.mk (L.out.below b5)
    replace L' := Box.mk (L'.out.below b5)
    replace BW := Box.mk (BW.out.trans (b5.mono BW.out.size))
    have R_t := tx_row38 K_t.out
    have S_t := (Array.getElem?_eq_some_iff.1 K_t.out).1
    go_wp2_with fail
    refine (id_any t d _ L.out).mono ?_
    rintro e6 w6 ⟨rfl, b6⟩
    rw [hN.out]
    unfold valNm
    clear R_t
    clear S_t
    replace K_t := Box.mk (keepBlock b6 K_t.out)
    replace K_u := Box.mk (keepBlock b6 K_u.out)
    replace L := Box.mk (L.out.below b6)
    replace L' := Box.mk (L'.out.below b6)
    replace BW := Box.mk (BW.out.trans (b6.mono BW.out.size))
    have R_t := tx_row38 K_t.out
    have S_t := (Array.getElem?_eq_some_iff.1 K_t.out).1
    go_wp2_with fail
    have hA : Below w6.heap.size w6 (w6.alloc (.cells (keyC k).toArray 26)) := (Below.refl _ _).alloc (Nat.le_refl _) _
    have hKn := heap_alloc_new w6 (.cells (keyC k).toArray 26)
    clear R_t
    clear S_t
    replace K_t := Box.mk (keepBlock hA K_t.out)
    replace K_u := Box.mk (keepBlock hA K_u.out)
    replace L := Box.mk (L.out.below hA)
    replace L' := Box.mk (L'.out.below hA)
    replace BW := Box.mk (BW.out.trans (hA.mono BW.out.size))
    have K_k1 := Box.mk hKn
    clear hKn
    have hsz_w7 : (w6.alloc (.cells (keyC k).toArray 26)).heap.size = w6.heap.size + 1 := by simp
    clear hA
    generalize w6.alloc (.cells (keyC k).toArray 26) = w7 at *
    replace hsz_w7 := Box.mk hsz_w7
    have R_t := tx_row38 K_t.out
    have S_t := (Array.getElem?_eq_some_iff.1 K_t.out).1
    refine (refId_any t d _ L.out).mono ?_
    rintro e8 w8 ⟨rfl, b8⟩
    rw [hN.out]
    unfold valNm
    clear R_t
    clear S_t
    replace K_t := Box.mk (keepBlock b8 K_t.out)
    replace K_u := Box.mk (keepBlock b8 K_u.out)
    replace K_k1 := Box.mk (keepBlock b8 K_k1.out)
    replace L := Box.mk (L.out.below b8)
    replace L' := Box.mk (L'.out.below b8)
    replace BW := Box.mk (BW.out.trans (b8.mono BW.out.size))
    have R_t := tx_row38 K_t.out
    have S_t := (Array.getElem?_eq_some_iff.1 K_t.out).1
    have R_u := tx_row38 K_u.out
    have S_u := (Array.getElem?_eq_some_iff.1 K_u.out).1
    have R_k1 := key_rowOf K_k1.out
    have S_k1 := (Array.getElem?_eq_some_iff.1 K_k1.out).1
    go_wp2_with fail
    have hA : Below w8.heap.size w8 (w8.alloc (.cells (keyC k).toArray 26)) := (Below.refl _ _).alloc (Nat.le_refl _) _
    have hKn := heap_alloc_new w8 (.cells (keyC k).toArray 26)
    clear R_t
    clear S_t
    clear R_k1
    clear S_k1
    clear R_u
    clear S_u
    replace K_t := Box.mk (keepBlock hA K_t.out)
    replace K_u := Box.mk (keepBlock hA K_u.out)
    replace K_k1 := Box.mk (keepBlock hA K_k1.out)
    replace L := Box.mk (L.out.below hA)
    replace L' := Box.mk (L'.out.below hA)
    replace BW := Box.mk (BW.out.trans (hA.mono BW.out.size))
    have K_k2 := Box.mk hKn
    clear hKn
    have hsz_w9 : (w8.alloc (.cells (keyC k).toArray 26)).heap.size = w8.heap.size + 1 := by simp
    clear hA
    generalize w8.alloc (.cells (keyC k).toArray 26) = w9 at *
    replace hsz_w9 := Box.mk hsz_w9
    have hall : ∀ w', SinceP w9 w' → (rowOf w' W.heap.size 0 38 = some (txC t) ∧ rowOf w' (W.heap.size + 1) 0 38 = some (txC u) ∧ rowOf w' w6.heap.size 0 32 = some (keyC k) ∧ rowOf w' w8.heap.size 0 32 = some (keyC k)) := fun w' h =>
      ⟨tx_row38 (keepBlock h.out K_t.out), tx_row38 (keepBlock h.out K_u.out), key_rowOf (keepBlock h.out K_k1.out), key_rowOf (keepBlock h.out K_k2.out)⟩
    obtain ⟨cb, hcb⟩ : ∃ c, cbB d.ins = c := ⟨_, rfl⟩
    obtain ⟨sm, hsm⟩ : ∃ c, sameB d e = c := ⟨_, rfl⟩
    replace hcb := Box.mk hcb
    replace hsm := Box.mk hsm
    refine hreg_begin (S := SinceP w9) (by kernel_rfl) (SinceP.refl _).drew (fun hHeld => ?_)
    simp only [List.length_cons, List.length_nil, Nat.zero_add, Nat.reduceAdd, Array.replicate]
    refine hreg_take (i := 0) rfl (by kernel_rfl) (by kernel_rfl) (by kernel_rfl) hreg_panic (by rfl) hHeld ?_
    apply Exists.intro
    refine ⟨fun w' hw' => ?_, ?_⟩
    · have hf := hall w' hw'
      go_simp
      try go_bits
      exact yieldsV_mk rfl
    simp only [Act.put, List.setIfInBounds_toArray, List.set_cons_zero, List.set_cons_succ]
    refine hreg_take (i := 1) rfl (by kernel_rfl) (by kernel_rfl) (by kernel_rfl) hreg_panic (by rfl) hHeld ?_
    apply Exists.intro
    refine ⟨fun w' hw' => ?_, ?_⟩
    · have hf := hall w' hw'
      go_simp
      try go_bits
      exact yieldsV_mk rfl
    simp only [Act.put, List.setIfInBounds_toArray, List.set_cons_zero, List.set_cons_succ]
    refine hreg_take (i := 2) rfl (by kernel_rfl) (by kernel_rfl) (by kernel_rfl) hreg_panic (by rfl) hHeld ?_
    apply Exists.intro
    refine ⟨fun w' hw' => ?_, ?_⟩
    · have hf := hall w' hw'
      go_simp
      try go_bits
      exact yieldsV_mk rfl
    simp only [Act.put, List.setIfInBounds_toArray, List.set_cons_zero, List.set_cons_succ]
    refine hreg_take (i := 3) rfl (by kernel_rfl) (by kernel_rfl) (by kernel_rfl) hreg_panic (by rfl) hHeld ?_
    apply Exists.intro
    refine ⟨fun w' hw' => ?_, ?_⟩
    · have hf := hall w' hw'
      go_simp
      try go_bits
      exact yieldsV_mk rfl
    simp only [Act.put, List.setIfInBounds_toArray, List.set_cons_zero, List.set_cons_succ]
    refine hreg_take (i := 4) rfl (by kernel_rfl) (by kernel_rfl) (by kernel_rfl) hreg_panic (by rfl) hHeld ?_
    apply Exists.intro
    refine ⟨fun w' hw' => ?_, ?_⟩
    · have hf := hall w' hw'
      go_simp
      try go_bits
      exact yieldsV_mk rfl
    simp only [Act.put, List.setIfInBounds_toArray, List.set_cons_zero, List.set_cons_succ]
    refine hreg_take (i := 5) rfl (by kernel_rfl) (by kernel_rfl) (by kernel_rfl) hreg_panic (by rfl) hHeld ?_
    apply Exists.intro
    refine ⟨fun w' hw' => ?_, ?_⟩
    · have hf := hall w' hw'
      go_simp
      try go_bits
      exact yieldsV_mk rfl
    simp only [Act.put, List.setIfInBounds_toArray, List.set_cons_zero, List.set_cons_succ]
    refine hreg_take (i := 6) rfl (by kernel_rfl) (by kernel_rfl) (by kernel_rfl) hreg_panic (by rfl) hHeld ?_
    apply Exists.intro
    refine ⟨fun w' hw' => ?_, ?_⟩
    · have hf := hall w' hw'
      go_simp
      try go_bits
      exact yieldsV_mk rfl
    simp only [Act.put, List.setIfInBounds_toArray, List.set_cons_zero, List.set_cons_succ]
    refine hreg_take (i := 7) rfl (by kernel_rfl) (by kernel_rfl) (by kernel_rfl) hreg_panic (by rfl) hHeld ?_
    apply Exists.intro
    refine ⟨fun w' hw' => ?_, ?_⟩
    · have hf := hall w' hw'
      go_simp
      try go_bits
      exact yieldsV_mk rfl
    simp only [Act.put, List.setIfInBounds_toArray, List.set_cons_zero, List.set_cons_succ]
    refine hreg_take (i := 8) rfl (by kernel_rfl) (by kernel_rfl) (by kernel_rfl) hreg_panic (by rfl) hHeld ?_
    apply Exists.intro
    refine ⟨fun w' hw' => ?_, ?_⟩
    · have hf := hall w' hw'
      go_simp
      try go_bits
      exact yieldsV_mk rfl
    simp only [Act.put, List.setIfInBounds_toArray, List.set_cons_zero, List.set_cons_succ]
    refine hreg_take (i := 9) rfl (by kernel_rfl) (by kernel_rfl) (by kernel_rfl) hreg_panic (by rfl) hHeld ?_
    apply Exists.intro
    refine ⟨fun w' hw' => ?_, ?_⟩
    · have hf := hall w' hw'
      go_simp
      try go_bits
      exact yieldsV_mk rfl
    simp only [Act.put, List.setIfInBounds_toArray, List.set_cons_zero, List.set_cons_succ]
    refine hreg_take (i := 10) rfl (by kernel_rfl) (by kernel_rfl) (by kernel_rfl) hreg_panic (by rfl) hHeld ?_
    apply Exists.intro
    refine ⟨fun w' hw' => ?_, ?_⟩
    · have hf := hall w' hw'
      go_simp
      try go_bits
      exact yieldsV_mk rfl
    simp only [Act.put, List.setIfInBounds_toArray, List.set_cons_zero, List.set_cons_succ]
    refine hreg_take (i := 11) rfl (by kernel_rfl) (by kernel_rfl) (by kernel_rfl) hreg_panic (by rfl) hHeld ?_
    apply Exists.intro
    refine ⟨fun w' hw' => ?_, ?_⟩
    · have hf := hall w' hw'
      go_simp
      try go_bits
      exact yieldsV_mk rfl
    simp only [Act.put, List.setIfInBounds_toArray, List.set_cons_zero, List.set_cons_succ]
    refine hreg_take (i := 12) rfl (by kernel_rfl) (by kernel_rfl) (by kernel_rfl) hreg_panic (by rfl) hHeld ?_
    apply Exists.intro
    refine ⟨fun w' hw' => ?_, ?_⟩
    · have hf := hall w' hw'
      go_simp
      try go_bits
      exact yieldsV_mk rfl
    simp only [Act.put, List.setIfInBounds_toArray, List.set_cons_zero, List.set_cons_succ]
    refine hreg_take (i := 13) rfl (by kernel_rfl) (by kernel_rfl) (by kernel_rfl) hreg_panic (by rfl) hHeld ?_
    apply Exists.intro
    refine ⟨fun w' hw' => ?_, ?_⟩
    · have hf := hall w' hw'
      go_simp
      try go_bits
      exact yieldsV_mk rfl
    simp only [Act.put, List.setIfInBounds_toArray, List.set_cons_zero, List.set_cons_succ]
    refine hreg_take (i := 14) rfl (by kernel_rfl) (by kernel_rfl) (by kernel_rfl) hreg_panic (by rfl) hHeld ?_
    apply Exists.intro
    refine ⟨fun w' hw' => ?_, ?_⟩
    · have hf := hall w' hw'
      go_simp
      try go_bits
      exact yieldsV_mk rfl
    simp only [Act.put, List.setIfInBounds_toArray, List.set_cons_zero, List.set_cons_succ]
    refine hreg_take (i := 15) rfl (by kernel_rfl) (by kernel_rfl) (by kernel_rfl) hreg_panic (by rfl) hHeld ?_
    apply Exists.intro
    refine ⟨fun w' hw' => ?_, ?_⟩
    · have hf := hall w' hw'
      go_simp
      try go_bits
      exact yieldsV_mk rfl
    simp only [Act.put, List.setIfInBounds_toArray, List.set_cons_zero, List.set_cons_succ]
    refine hreg_take (i := 16) rfl (by kernel_rfl) (by kernel_rfl) (by kernel_rfl) hreg_panic (by rfl) hHeld ?_
    apply Exists.intro
    refine ⟨fun w' hw' => ?_, ?_⟩
    · have hf := hall w' hw'
      go_simp
      try go_bits
      exact yieldsV_mk rfl
    simp only [Act.put, List.setIfInBounds_toArray, List.set_cons_zero, List.set_cons_succ]
    refine hreg_take (i := 17) rfl (by kernel_rfl) (by kernel_rfl) (by kernel_rfl) hreg_panic (by rfl) hHeld ?_
    apply Exists.intro
    refine ⟨fun w' hw' => ?_, ?_⟩
    · have hf := hall w' hw'
      go_simp
      try go_bits
      exact yieldsV_mk rfl
    simp only [Act.put, List.setIfInBounds_toArray, List.set_cons_zero, List.set_cons_succ]
    refine hreg_take (i := 18) rfl (by kernel_rfl) (by kernel_rfl) (by kernel_rfl) hreg_panic (by rfl) hHeld ?_
    apply Exists.intro
    refine ⟨fun w' hw' => ?_, ?_⟩
    · have hf := hall w' hw'
      go_simp
      try go_bits
      exact yieldsV_mk rfl
    simp only [Act.put, List.setIfInBounds_toArray, List.set_cons_zero, List.set_cons_succ]
    refine hreg_take (i := 19) rfl (by kernel_rfl) (by kernel_rfl) (by kernel_rfl) hreg_panic (by rfl) hHeld ?_
    apply Exists.intro
    refine ⟨fun w' hw' => ?_, ?_⟩
    · have hf := hall w' hw'
      go_simp
      try go_bits
      exact yieldsV_mk rfl
    simp only [Act.put, List.setIfInBounds_toArray, List.set_cons_zero, List.set_cons_succ]
    refine hreg_take (i := 21) rfl (by kernel_rfl) (by kernel_rfl) (by kernel_rfl) hreg_panic (by rfl) hHeld ?_
    apply Exists.intro
    refine ⟨fun w' hw' => ?_, ?_⟩
    · have hf := hall w' hw'
      go_simp
      try go_bits
      exact yieldsV_mk rfl
    simp only [Act.put, List.setIfInBounds_toArray, List.set_cons_zero, List.set_cons_succ]
    refine wpAnyH_ready (rs := [20]) (by kernel_rfl) (by simp) ?_
    refine hreg_event (o := _) rfl (by rfl) (fun K hK => ?_) ?_
    · go_simp
      first
        | (go_at_call 14; refine (coinbase_any t d.ins _ (L.out.below hHeld.out).ins).mono ?_; rw [hcb.out]; rintro e wn ⟨rfl, hb⟩)
        | (go_at_call 25; refine (refCoinbase_any t d.ins _ (L.out.below hHeld.out).ins).mono ?_; rw [hcb.out]; rintro e wn ⟨rfl, hb⟩)
        | (go_at_call 19; refine (refSame_any t u d e _ (L.out.below hHeld.out) (L'.out.below hHeld.out) hlt.out).mono ?_; rw [hsm.out]; rintro e wn ⟨rfl, hb⟩)
        | (go_at_call_of 22 (Value.agg (txC u).toArray); refine (txSame_any t u d e _ (L.out.below hHeld.out) (L'.out.below hHeld.out) hlt.out).mono ?_; rw [hsm.out]; rintro e wn ⟨rfl, hb⟩)
        | (go_at_call 22; refine (txSame_any t t d d _ (L.out.below hHeld.out) (L.out.below hHeld.out) hlt.out).mono ?_; rw [sameB_self]; rintro e wn ⟨rfl, hb⟩)
        | skip
      refine hK.out _ _ ?_ (fun hHeld' => ?_)
      · first
          | exact hHeld.next hb
          | exact hHeld.next hb
          | exact hHeld
          | exact hHeld.alloc _
          | exact hHeld.setCell (by simp <;> omega) _
          | exact (hHeld.alloc _).alloc _
      replace hHeld := hHeld'
      clear hHeld' hK K
      simp only [Act.put, List.setIfInBounds_toArray, List.set_cons_zero, List.set_cons_succ]
      refine wpAnyH_ready (rs := [22]) (by kernel_rfl) (by simp) ?_
      refine hreg_event (o := _) rfl (by rfl) (fun K hK => ?_) ?_
      · go_simp
        first
          | (go_at_call 14; refine (coinbase_any t d.ins _ (L.out.below hHeld.out).ins).mono ?_; rw [hcb.out]; rintro e wn ⟨rfl, hb⟩)
          | (go_at_call 25; refine (refCoinbase_any t d.ins _ (L.out.below hHeld.out).ins).mono ?_; rw [hcb.out]; rintro e wn ⟨rfl, hb⟩)
          | (go_at_call 19; refine (refSame_any t u d e _ (L.out.below hHeld.out) (L'.out.below hHeld.out) hlt.out).mono ?_; rw [hsm.out]; rintro e wn ⟨rfl, hb⟩)
          | (go_at_call_of 22 (Value.agg (txC u).toArray); refine (txSame_any t u d e _ (L.out.below hHeld.out) (L'.out.below hHeld.out) hlt.out).mono ?_; rw [hsm.out]; rintro e wn ⟨rfl, hb⟩)
          | (go_at_call 22; refine (txSame_any t t d d _ (L.out.below hHeld.out) (L.out.below hHeld.out) hlt.out).mono ?_; rw [sameB_self]; rintro e wn ⟨rfl, hb⟩)
          | skip
        refine hK.out _ _ ?_ (fun hHeld' => ?_)
        · first
            | exact hHeld.next hb
            | exact hHeld.next hb
            | exact hHeld
            | exact hHeld.alloc _
            | exact hHeld.setCell (by simp <;> omega) _
            | exact (hHeld.alloc _).alloc _
        replace hHeld := hHeld'
        clear hHeld' hK K
        simp only [Act.put, List.setIfInBounds_toArray, List.set_cons_zero, List.set_cons_succ]
        refine hreg_take (i := 23) rfl (by kernel_rfl) (by kernel_rfl) (by kernel_rfl) hreg_panic (by rfl) hHeld ?_
        apply Exists.intro
        refine ⟨fun w' hw' => ?_, ?_⟩
        · have hf := hall w' hw'
          go_simp
          try go_bits
          exact yieldsV_mk rfl
        simp only [Act.put, List.setIfInBounds_toArray, List.set_cons_zero, List.set_cons_succ]
        refine hreg_take (i := 24) rfl (by kernel_rfl) (by kernel_rfl) (by kernel_rfl) hreg_panic (by rfl) hHeld ?_
        apply Exists.intro
        refine ⟨fun w' hw' => ?_, ?_⟩
        · have hf := hall w' hw'
          go_simp
          try go_bits
          exact yieldsV_mk rfl
        simp only [Act.put, List.setIfInBounds_toArray, List.set_cons_zero, List.set_cons_succ]
        refine hreg_take (i := 25) rfl (by kernel_rfl) (by kernel_rfl) (by kernel_rfl) hreg_panic (by rfl) hHeld ?_
        apply Exists.intro
        refine ⟨fun w' hw' => ?_, ?_⟩
        · have hf := hall w' hw'
          go_simp
          try go_bits
          exact yieldsV_mk rfl
        simp only [Act.put, List.setIfInBounds_toArray, List.set_cons_zero, List.set_cons_succ]
        refine hreg_take (i := 26) rfl (by kernel_rfl) (by kernel_rfl) (by kernel_rfl) hreg_panic (by rfl) hHeld ?_
        apply Exists.intro
        refine ⟨fun w' hw' => ?_, ?_⟩
        · have hf := hall w' hw'
          go_simp
          try go_bits
          exact yieldsV_mk rfl
        simp only [Act.put, List.setIfInBounds_toArray, List.set_cons_zero, List.set_cons_succ]
        refine hreg_take (i := 27) rfl (by kernel_rfl) (by kernel_rfl) (by kernel_rfl) hreg_panic (by rfl) hHeld ?_
        apply Exists.intro
        refine ⟨fun w' hw' => ?_, ?_⟩
        · have hf := hall w' hw'
          go_simp
          try go_bits
          exact yieldsV_mk rfl
        simp only [Act.put, List.setIfInBounds_toArray, List.set_cons_zero, List.set_cons_succ]
        refine hreg_take (i := 29) rfl (by kernel_rfl) (by kernel_rfl) (by kernel_rfl) hreg_panic (by rfl) hHeld ?_
        apply Exists.intro
        refine ⟨fun w' hw' => ?_, ?_⟩
        · have hf := hall w' hw'
          go_simp
          try go_bits
          exact yieldsV_mk rfl
        simp only [Act.put, List.setIfInBounds_toArray, List.set_cons_zero, List.set_cons_succ]
        refine hreg_take (i := 30) rfl (by kernel_rfl) (by kernel_rfl) (by kernel_rfl) hreg_panic (by rfl) hHeld ?_
        apply Exists.intro
        refine ⟨fun w' hw' => ?_, ?_⟩
        · have hf := hall w' hw'
          go_simp
          try go_bits
          exact yieldsV_mk rfl
        simp only [Act.put, List.setIfInBounds_toArray, List.set_cons_zero, List.set_cons_succ]
        refine wpAnyH_ready (rs := [28]) (by kernel_rfl) (by simp) ?_
        refine hreg_event (o := _) rfl (by rfl) (fun K hK => ?_) ?_
        · go_simp
          first
            | (go_at_call 14; refine (coinbase_any t d.ins _ (L.out.below hHeld.out).ins).mono ?_; rw [hcb.out]; rintro e wn ⟨rfl, hb⟩)
            | (go_at_call 25; refine (refCoinbase_any t d.ins _ (L.out.below hHeld.out).ins).mono ?_; rw [hcb.out]; rintro e wn ⟨rfl, hb⟩)
            | (go_at_call 19; refine (refSame_any t u d e _ (L.out.below hHeld.out) (L'.out.below hHeld.out) hlt.out).mono ?_; rw [hsm.out]; rintro e wn ⟨rfl, hb⟩)
            | (go_at_call_of 22 (Value.agg (txC u).toArray); refine (txSame_any t u d e _ (L.out.below hHeld.out) (L'.out.below hHeld.out) hlt.out).mono ?_; rw [hsm.out]; rintro e wn ⟨rfl, hb⟩)
            | (go_at_call 22; refine (txSame_any t t d d _ (L.out.below hHeld.out) (L.out.below hHeld.out) hlt.out).mono ?_; rw [sameB_self]; rintro e wn ⟨rfl, hb⟩)
            | skip
          refine hK.out _ _ ?_ (fun hHeld' => ?_)
          · first
              | exact hHeld.next hb
              | exact hHeld.next hb
              | exact hHeld
              | exact hHeld.alloc _
              | exact hHeld.setCell (by simp <;> omega) _
              | exact (hHeld.alloc _).alloc _
          replace hHeld := hHeld'
          clear hHeld' hK K
          simp only [Act.put, List.setIfInBounds_toArray, List.set_cons_zero, List.set_cons_succ]
          refine wpAnyH_ready (rs := [31]) (by kernel_rfl) (by simp) ?_
          refine hreg_event (o := _) rfl (by rfl) (fun K hK => ?_) ?_
          · go_simp
            first
              | (go_at_call 14; refine (coinbase_any t d.ins _ (L.out.below hHeld.out).ins).mono ?_; rw [hcb.out]; rintro e wn ⟨rfl, hb⟩)
              | (go_at_call 25; refine (refCoinbase_any t d.ins _ (L.out.below hHeld.out).ins).mono ?_; rw [hcb.out]; rintro e wn ⟨rfl, hb⟩)
              | (go_at_call 19; refine (refSame_any t u d e _ (L.out.below hHeld.out) (L'.out.below hHeld.out) hlt.out).mono ?_; rw [hsm.out]; rintro e wn ⟨rfl, hb⟩)
              | (go_at_call_of 22 (Value.agg (txC u).toArray); refine (txSame_any t u d e _ (L.out.below hHeld.out) (L'.out.below hHeld.out) hlt.out).mono ?_; rw [hsm.out]; rintro e wn ⟨rfl, hb⟩)
              | (go_at_call 22; refine (txSame_any t t d d _ (L.out.below hHeld.out) (L.out.below hHeld.out) hlt.out).mono ?_; rw [sameB_self]; rintro e wn ⟨rfl, hb⟩)
              | skip
            refine hK.out _ _ ?_ (fun hHeld' => ?_)
            · first
                | exact hHeld.next hb
                | exact hHeld.next hb
                | exact hHeld
                | exact hHeld.alloc _
                | exact hHeld.setCell (by simp <;> omega) _
                | exact (hHeld.alloc _).alloc _
            replace hHeld := hHeld'
            clear hHeld' hK K
            simp only [Act.put, List.setIfInBounds_toArray, List.set_cons_zero, List.set_cons_succ]
            refine hreg_take (i := 32) rfl (by kernel_rfl) (by kernel_rfl) (by kernel_rfl) hreg_panic (by rfl) hHeld ?_
            apply Exists.intro
            refine ⟨fun w' hw' => ?_, ?_⟩
            · have hf := hall w' hw'
              go_simp
              try go_bits
              exact yieldsV_mk rfl
            simp only [Act.put, List.setIfInBounds_toArray, List.set_cons_zero, List.set_cons_succ]
            refine hreg_take (i := 33) rfl (by kernel_rfl) (by kernel_rfl) (by kernel_rfl) hreg_panic (by rfl) hHeld ?_
            apply Exists.intro
            refine ⟨fun w' hw' => ?_, ?_⟩
            · have hf := hall w' hw'
              go_simp
              try go_bits
              exact yieldsV_mk rfl
            simp only [Act.put, List.setIfInBounds_toArray, List.set_cons_zero, List.set_cons_succ]
            refine hreg_take (i := 34) rfl (by kernel_rfl) (by kernel_rfl) (by kernel_rfl) hreg_panic (by rfl) hHeld ?_
            apply Exists.intro
            refine ⟨fun w' hw' => ?_, ?_⟩
            · have hf := hall w' hw'
              go_simp
              try go_bits
              exact yieldsV_mk rfl
            simp only [Act.put, List.setIfInBounds_toArray, List.set_cons_zero, List.set_cons_succ]
            refine hreg_take (i := 35) rfl (by kernel_rfl) (by kernel_rfl) (by kernel_rfl) hreg_panic (by rfl) hHeld ?_
            apply Exists.intro
            refine ⟨fun w' hw' => ?_, ?_⟩
            · have hf := hall w' hw'
              go_simp
              try go_bits
              exact yieldsV_mk rfl
            simp only [Act.put, List.setIfInBounds_toArray, List.set_cons_zero, List.set_cons_succ]
            refine hreg_take (i := 36) rfl (by kernel_rfl) (by kernel_rfl) (by kernel_rfl) hreg_panic (by rfl) hHeld ?_
            apply Exists.intro
            refine ⟨fun w' hw' => ?_, ?_⟩
            · have hf := hall w' hw'
              go_simp
              try go_bits
              exact yieldsV_mk rfl
            simp only [Act.put, List.setIfInBounds_toArray, List.set_cons_zero, List.set_cons_succ]
            refine wpAnyH_ready (rs := [37]) (by kernel_rfl) (by simp) ?_
            refine hreg_event (o := _) rfl (by rfl) (fun K hK => ?_) ?_
            · go_simp
              first
                | (go_at_call 14; refine (coinbase_any t d.ins _ (L.out.below hHeld.out).ins).mono ?_; rw [hcb.out]; rintro e wn ⟨rfl, hb⟩)
                | (go_at_call 25; refine (refCoinbase_any t d.ins _ (L.out.below hHeld.out).ins).mono ?_; rw [hcb.out]; rintro e wn ⟨rfl, hb⟩)
                | (go_at_call 19; refine (refSame_any t u d e _ (L.out.below hHeld.out) (L'.out.below hHeld.out) hlt.out).mono ?_; rw [hsm.out]; rintro e wn ⟨rfl, hb⟩)
                | (go_at_call_of 22 (Value.agg (txC u).toArray); refine (txSame_any t u d e _ (L.out.below hHeld.out) (L'.out.below hHeld.out) hlt.out).mono ?_; rw [hsm.out]; rintro e wn ⟨rfl, hb⟩)
                | (go_at_call 22; refine (txSame_any t t d d _ (L.out.below hHeld.out) (L.out.below hHeld.out) hlt.out).mono ?_; rw [sameB_self]; rintro e wn ⟨rfl, hb⟩)
                | skip
              refine hK.out _ _ ?_ (fun hHeld' => ?_)
              · first
                  | exact hHeld.next hb
                  | exact hHeld.next hb
                  | exact hHeld
                  | exact hHeld.alloc _
                  | exact hHeld.setCell (by simp <;> omega) _
                  | exact (hHeld.alloc _).alloc _
              replace hHeld := hHeld'
              clear hHeld' hK K
              simp only [Act.put, List.setIfInBounds_toArray, List.set_cons_zero, List.set_cons_succ]
              refine hreg_take (i := 38) rfl (by kernel_rfl) (by kernel_rfl) (by kernel_rfl) hreg_panic (by rfl) hHeld ?_
              apply Exists.intro
              refine ⟨fun w' hw' => ?_, ?_⟩
              · have hf := hall w' hw'
                go_simp
                try go_bits
                exact yieldsV_mk rfl
              simp only [Act.put, List.setIfInBounds_toArray, List.set_cons_zero, List.set_cons_succ]
              refine hreg_take (i := 39) rfl (by kernel_rfl) (by kernel_rfl) (by kernel_rfl) hreg_panic (by rfl) hHeld ?_
              apply Exists.intro
              refine ⟨fun w' hw' => ?_, ?_⟩
              · have hf := hall w' hw'
                go_simp
                try go_bits
                exact yieldsV_mk rfl
              simp only [Act.put, List.setIfInBounds_toArray, List.set_cons_zero, List.set_cons_succ]
              refine wpAnyH_done (by kernel_rfl) ?_ _
              refine NoPanic.normal ?_
              have hfin := BW.out.trans (hHeld.out.mono BW.out.size)
              go_wp2
              go_ret
              exact gives_bool rfl hfin
            exact AllReadyH.nil
          exact AllReadyH.nil
        exact AllReadyH.nil
      exact AllReadyH.nil
    exact AllReadyH.nil

end Go.Proofs.Ytfnlgihkofkibaa
