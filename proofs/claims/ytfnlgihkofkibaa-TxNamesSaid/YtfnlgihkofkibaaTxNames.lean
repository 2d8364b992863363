/- Layer 5: a transaction's name is its bytes' hash; with something in it another one its bytes are others. (printed by mktxdec.py) -/
import Derived.Test.YtfnlgihkofkibaaTxId
import Derived.Test.YtfnlgihkofkibaaTxR
namespace Go.Proofs.Ytfnlgihkofkibaa
open Go.RowKit
set_option linter.unusedVariables false
set_option linter.unusedSimpArgs false
set_option maxRecDepth 100000
attribute [local irreducible] Int.lt Int.le
attribute [local go_sem] sB_append
attribute [local go_sem ↓] load_key store_key alloc_key build0_key eq_key load_point store_point alloc_point load_out store_out alloc_out load_tx store_tx alloc_tx build0_tx
attribute [local go_sem] rowOf_drew rowOf_alloc_old rowOf_alloc_new canPut_drew canPut_alloc_old canPut_alloc_new setCells_alloc_new

theorem heavyN_false {t : TxV} (h : heavyB t = false) : t.ins.len ≤ 100000 ∧ t.outs.len ≤ 100000 ∧ t.nulls.len ≤ 100000 ∧ t.notes.len ≤ 100000 := by
  unfold heavyB at h
  simp only [Bool.or_eq_false_iff, decide_eq_false_iff_not] at h
  omega
theorem TxLn.ok {w : World} {t : TxV} {d : TxD} (h : TxL w t d) : TxOK d := ⟨h.idx, h.val, h.exp.2, h.bal.2⟩

set_option maxHeartbeats 8000000 in
theorem txNames_walk (t u : TxV) (d e : TxD) (W : World) (h : TxL W t d) (h' : TxL W u e) : Calls Try.prog 8 #[.agg (txC t).toArray, .agg (txC u).toArray] W (LawEnd W) := by
  have hB0 : Below W.heap.size W ((W.alloc (.cells (txC t).toArray 29)).alloc (.cells (txC u).toArray 29)) := ((Below.refl _ _).alloc (Nat.le_refl _) _).alloc (by simp) _
  obtain ⟨k1, k2⟩ := two_tx (W := W) (t := t) (u := u)
  have K_t := Box.mk k1
  have K_u := Box.mk k2
  have L := Box.mk (h.below hB0)
  have L' := Box.mk (h'.below hB0)
  have BW := Box.mk hB0
  have okd := Box.mk h.ok
  have oke := Box.mk h'.ok
  clear h h' hB0 k1 k2
  have hA : (heavyB t = true) ∨ (heavyB t = false ∧ heavyB u = true) ∨ (heavyB t = false ∧ heavyB u = false) := by cases heavyB t <;> cases heavyB u <;> simp
  rcases hA with ha | ⟨ha, ha2⟩ | ⟨ha, ha2⟩
  · have R_t := tx_row38 K_t.out
    have S_t := (Array.getElem?_eq_some_iff.1 K_t.out).1
    have R_u := tx_row38 K_u.out
    have S_u := (Array.getElem?_eq_some_iff.1 K_u.out).1
    go_enter Try.func8, Try.ntmps8
    go_wp2_with fail
    generalize (W.alloc (.cells (txC t).toArray 29)).alloc (.cells (txC u).toArray 29) = w0 at *
    refine (heavy_any t _).mono ?_
    rintro e1 w1 ⟨rfl, b1⟩
    rw [ha]
    clear R_u
    clear S_u
    clear R_t
    clear S_t
    replace K_t := Box.mk (keepBlock b1 K_t.out)
    replace K_u := Box.mk (keepBlock b1 K_u.out)
    replace L := Box.mk (L.out.below b1)
    replace L' := Box.mk (L'.out.below b1)
    replace BW := Box.mk (BW.out.trans (b1.mono BW.out.size))
    have R_t := tx_row38 K_t.out
    have S_t := (Array.getElem?_eq_some_iff.1 K_t.out).1
    have R_u := tx_row38 K_u.out
    have S_u := (Array.getElem?_eq_some_iff.1 K_u.out).1
    go_wp2_with fail
    refine (shown05 _).mono ?_
    rintro e3 ws ⟨rfl, bs⟩
    clear R_u
    clear S_u
    clear R_t
    clear S_t
    replace BW := Box.mk (BW.out.trans (bs.mono BW.out.size))
    go_wp2
    go_ret
    exact gives_bool rfl BW.out
  · have R_t := tx_row38 K_t.out
    have S_t := (Array.getElem?_eq_some_iff.1 K_t.out).1
    have R_u := tx_row38 K_u.out
    have S_u := (Array.getElem?_eq_some_iff.1 K_u.out).1
    go_enter Try.func8, Try.ntmps8
    go_wp2_with fail
    generalize (W.alloc (.cells (txC t).toArray 29)).alloc (.cells (txC u).toArray 29) = w0 at *
    refine (heavy_any t _).mono ?_
    rintro e1 w1 ⟨rfl, b1⟩
    rw [ha]
    clear R_u
    clear S_u
    clear R_t
    clear S_t
    replace K_t := Box.mk (keepBlock b1 K_t.out)
    replace K_u := Box.mk (keepBlock b1 K_u.out)
    replace L := Box.mk (L.out.below b1)
    replace L' := Box.mk (L'.out.below b1)
    replace BW := Box.mk (BW.out.trans (b1.mono BW.out.size))
    have R_t := tx_row38 K_t.out
    have S_t := (Array.getElem?_eq_some_iff.1 K_t.out).1
    have R_u := tx_row38 K_u.out
    have S_u := (Array.getElem?_eq_some_iff.1 K_u.out).1
    go_wp2_with fail
    refine (heavy_any u _).mono ?_
    rintro e2 w2 ⟨rfl, b2⟩
    rw [ha2]
    clear R_u
    clear S_u
    clear R_t
    clear S_t
    replace K_t := Box.mk (keepBlock b2 K_t.out)
    replace K_u := Box.mk (keepBlock b2 K_u.out)
    replace L := Box.mk (L.out.below b2)
    replace L' := Box.mk (L'.out.below b2)
    replace BW := Box.mk (BW.out.trans (b2.mono BW.out.size))
    go_wp2_with fail
    refine (shown05 _).mono ?_
    rintro e3 ws ⟨rfl, bs⟩
    replace BW := Box.mk (BW.out.trans (bs.mono BW.out.size))
    go_wp2
    go_ret
    exact gives_bool rfl BW.out
  · have R_t := tx_row38 K_t.out
    have S_t := (Array.getElem?_eq_some_iff.1 K_t.out).1
    have R_u := tx_row38 K_u.out
    have S_u := (Array.getElem?_eq_some_iff.1 K_u.out).1
    go_enter Try.func8, Try.ntmps8
    go_wp2_with fail
    generalize (W.alloc (.cells (txC t).toArray 29)).alloc (.cells (txC u).toArray 29) = w0 at *
    refine (heavy_any t _).mono ?_
    rintro e1 w1 ⟨rfl, b1⟩
    rw [ha]
    clear R_u
    clear S_u
    clear R_t
    clear S_t
    replace K_t := Box.mk (keepBlock b1 K_t.out)
    replace K_u := Box.mk (keepBlock b1 K_u.out)
    replace L := Box.mk (L.out.below b1)
    replace L' := Box.mk (L'.out.below b1)
    replace BW := Box.mk (BW.out.trans (b1.mono BW.out.size))
    have R_t := tx_row38 K_t.out
    have S_t := (Array.getElem?_eq_some_iff.1 K_t.out).1
    have R_u := tx_row38 K_u.out
    have S_u := (Array.getElem?_eq_some_iff.1 K_u.out).1
    go_wp2_with fail
    refine (heavy_any u _).mono ?_
    rintro e2 w2 ⟨rfl, b2⟩
    rw [ha2]
    clear R_u
    clear S_u
    clear R_t
    clear S_t
    replace K_t := Box.mk (keepBlock b2 K_t.out)
    replace K_u := Box.mk (keepBlock b2 K_u.out)
    replace L := Box.mk (L.out.below b2)
    replace L' := Box.mk (L'.out.below b2)
    replace BW := Box.mk (BW.out.trans (b2.mono BW.out.size))
    have R_t := tx_row38 K_t.out
    have S_t := (Array.getElem?_eq_some_iff.1 K_t.out).1
    have R_u := tx_row38 K_u.out
    have S_u := (Array.getElem?_eq_some_iff.1 K_u.out).1
    go_wp2_with fail
    refine (shown05 _).mono ?_
    rintro e3 w3 ⟨rfl, b3⟩
    clear R_u
    clear S_u
    clear R_t
    clear S_t
    replace K_t := Box.mk (keepBlock b3 K_t.out)
    replace K_u := Box.mk (keepBlock b3 K_u.out)
    replace L := Box.mk (L.out.below b3)
    replace L' := Box.mk (L'.out.below b3)
    replace BW := Box.mk (BW.out.trans (b3.mono BW.out.size))
    have R_t := tx_row38 K_t.out
    have S_t := (Array.getElem?_eq_some_iff.1 K_t.out).1
    have hlt := heavyN_false ha
    replace hlt := Box.mk hlt
    obtain ⟨s, x, hE⟩ : ∃ s x, encV d = (s, x) := ⟨_, _, rfl⟩
    obtain ⟨s2, x2, hE2⟩ : ∃ s x, encV e = (s, x) := ⟨_, _, rfl⟩
    obtain ⟨k, y, hN⟩ : ∃ s x, nameV d = (s, x) := ⟨_, _, rfl⟩
    replace hE := Box.mk hE
    replace hE2 := Box.mk hE2
    replace hN := Box.mk hN
    go_wp2_with fail
    refine (encode_any t d _ L.out).mono ?_
    rintro e4 w4 ⟨rfl, b4⟩
    rw [hE.out]
    unfold valE
    clear R_t
    clear S_t
    replace K_t := Box.mk (keepBlock b4 K_t.out)
    replace K_u := Box.mk (keepBlock b4 K_u.out)
    replace L := Box.mk (L.out.below b4)
    replace L' := Box.mk (L'.out.below b4)
    replace BW := Box.mk (BW.out.trans (b4.mono BW.out.size))
    have R_u := tx_row38 K_u.out
    have S_u := (Array.getElem?_eq_some_iff.1 K_u.out).1
    go_wp2_with fail
    refine (encode_any u e _ L'.out).mono ?_
    rintro e5 w5 ⟨rfl, b5⟩
    rw [hE2.out]
    unfold valE
    clear R_u
    clear S_u
    replace K_t := Box.mk (keepBlock b5 K_t.out)
    replace K_u := Box.mk (keepBlock b5 K_u.out)
    replace L := Box.mk (L.out.below b5)
    replace L' := Box.mk (L'.out.below b5)
    replace BW := Box.mk (BW.out.trans (b5.mono BW.out.size))
    have R_t := tx_row38 K_t.out
    have S_t := (Array.getElem?_eq_some_iff.1 K_t.out).1
    go_wp2_with fail
    refine (id_any t d _ L.out).mono ?_
    rintro e6 w6 ⟨rfl, b6⟩
    rw [hN.out]
    unfold valNm
    clear R_t
    clear S_t
    replace K_t := Box.mk (keepBlock b6 K_t.out)
    replace K_u := Box.mk (keepBlock b6 K_u.out)
    replace L := Box.mk (L.out.below b6)
    replace L' := Box.mk (L'.out.below b6)
    replace BW := Box.mk (BW.out.trans (b6.mono BW.out.size))
    go_wp2_with fail
    have hA : Below w6.heap.size w6 (w6.alloc (.cells (keyC k).toArray 26)) := (Below.refl _ _).alloc (Nat.le_refl _) _
    have hKn := heap_alloc_new w6 (.cells (keyC k).toArray 26)
    replace K_t := Box.mk (keepBlock hA K_t.out)
    replace K_u := Box.mk (keepBlock hA K_u.out)
    replace L := Box.mk (L.out.below hA)
    replace L' := Box.mk (L'.out.below hA)
    replace BW := Box.mk (BW.out.trans (hA.mono BW.out.size))
    have K_k1 := Box.mk hKn
    clear hKn
    have hsz_w7 : (w6.alloc (.cells (keyC k).toArray 26)).heap.size = w6.heap.size + 1 := by simp
    clear hA
    generalize w6.alloc (.cells (keyC k).toArray 26) = w7 at *
    replace hsz_w7 := Box.mk hsz_w7
    have hall : ∀ w', SinceP w7 w' → (rowOf w' w6.heap.size 0 32 = some (keyC k)) := fun w' h => key_rowOf (keepBlock h.out K_k1.out)
    by_cases hx : x = 0
    · subst hx
      obtain ⟨hw, hsd⟩ := well_of_encV hE.out
      have hNd := nameV_ok hE.out
      rw [hN.out] at hNd
      injection hNd with hk hy
      subst hk hy
      have hsl : s.length ≤ 1000000 := by rw [hsd]; exact encB_le hw.1
      replace hsl := Box.mk hsl
      replace hw := Box.mk hw
      replace hsd := Box.mk hsd
      have hxx : ((0 : Int) == 0) = true := rfl
      refine hreg_begin (S := SinceP w7) (by kernel_rfl) (SinceP.refl _).drew (fun hHeld => ?_)
      simp only [List.length_cons, List.length_nil, Nat.zero_add, Nat.reduceAdd, Array.replicate]
      refine hreg_take (i := 0) rfl (by kernel_rfl) (by kernel_rfl) (by kernel_rfl) hreg_panic (by rfl) hHeld ?_
      apply Exists.intro
      refine ⟨fun w' hw' => ?_, ?_⟩
      · have hf := hall w' hw'
        go_simp
        try go_bits
        exact yieldsV_mk rfl
      simp only [Act.put, List.setIfInBounds_toArray, List.set_cons_zero, List.set_cons_succ]
      refine hreg_take (i := 1) rfl (by kernel_rfl) (by kernel_rfl) (by kernel_rfl) hreg_panic (by rfl) hHeld ?_
      apply Exists.intro
      refine ⟨fun w' hw' => ?_, ?_⟩
      · have hf := hall w' hw'
        go_simp
        try go_bits
        exact yieldsV_mk rfl
      simp only [Act.put, List.setIfInBounds_toArray, List.set_cons_zero, List.set_cons_succ]
      refine hreg_take (i := 2) rfl (by kernel_rfl) (by kernel_rfl) (by kernel_rfl) hreg_panic (by rfl) hHeld ?_
      apply Exists.intro
      refine ⟨fun w' hw' => ?_, ?_⟩
      · have hf := hall w' hw'
        go_simp
        try go_bits
        exact yieldsV_mk rfl
      simp only [Act.put, List.setIfInBounds_toArray, List.set_cons_zero, List.set_cons_succ]
      refine hreg_take (i := 3) rfl (by kernel_rfl) (by kernel_rfl) (by kernel_rfl) hreg_panic (by rfl) hHeld ?_
      apply Exists.intro
      refine ⟨fun w' hw' => ?_, ?_⟩
      · have hf := hall w' hw'
        go_simp
        try go_bits
        exact yieldsV_mk rfl
      simp only [Act.put, List.setIfInBounds_toArray, List.set_cons_zero, List.set_cons_succ]
      refine hreg_take (i := 4) rfl (by kernel_rfl) (by kernel_rfl) (by kernel_rfl) hreg_panic (by rfl) hHeld ?_
      apply Exists.intro
      refine ⟨fun w' hw' => ?_, ?_⟩
      · have hf := hall w' hw'
        go_simp
        try go_bits
        exact yieldsV_mk rfl
      simp only [Act.put, List.setIfInBounds_toArray, List.set_cons_zero, List.set_cons_succ]
      refine hreg_take (i := 5) rfl (by kernel_rfl) (by kernel_rfl) (by kernel_rfl) hreg_panic (by rfl) hHeld ?_
      apply Exists.intro
      refine ⟨fun w' hw' => ?_, ?_⟩
      · have hf := hall w' hw'
        go_simp
        try go_bits
        exact yieldsV_mk rfl
      simp only [Act.put, List.setIfInBounds_toArray, List.set_cons_zero, List.set_cons_succ]
      refine hreg_take (i := 6) rfl (by kernel_rfl) (by kernel_rfl) (by kernel_rfl) hreg_panic (by rfl) hHeld ?_
      apply Exists.intro
      refine ⟨fun w' hw' => ?_, ?_⟩
      · have hf := hall w' hw'
        go_simp
        try go_bits
        exact yieldsV_mk rfl
      simp only [Act.put, List.setIfInBounds_toArray, List.set_cons_zero, List.set_cons_succ]
      refine hreg_take (i := 7) rfl (by kernel_rfl) (by kernel_rfl) (by kernel_rfl) hreg_panic (by rfl) hHeld ?_
      apply Exists.intro
      refine ⟨fun w' hw' => ?_, ?_⟩
      · have hf := hall w' hw'
        go_simp
        try go_bits
        exact yieldsV_mk rfl
      simp only [Act.put, List.setIfInBounds_toArray, List.set_cons_zero, List.set_cons_succ]
      refine hreg_take (i := 8) rfl (by kernel_rfl) (by kernel_rfl) (by kernel_rfl) hreg_panic (by rfl) hHeld ?_
      apply Exists.intro
      refine ⟨fun w' hw' => ?_, ?_⟩
      · have hf := hall w' hw'
        go_simp
        try go_bits
        exact yieldsV_mk rfl
      simp only [Act.put, List.setIfInBounds_toArray, List.set_cons_zero, List.set_cons_succ]
      refine wpAnyH_ready (rs := [9]) (by kernel_rfl) (by simp) ?_
      refine hreg_event (o := _) rfl (by rfl) (fun K hK => ?_) ?_
      · go_simp
        first
          | (go_at_call 21; refine (refDouble_any s _ hsl.out).mono ?_; rintro e wn ⟨rfl, hb⟩)
          | skip
        refine hK.out _ _ ?_ (fun hHeld' => ?_)
        · first
            | exact hHeld.next hb
            | exact hHeld.next hb
            | exact hHeld
            | exact hHeld.alloc _
            | exact hHeld.setCell (by simp <;> omega) _
            | exact (hHeld.alloc _).alloc _
        replace hHeld := hHeld'
        clear hHeld' hK K
        simp only [Act.put, List.setIfInBounds_toArray, List.set_cons_zero, List.set_cons_succ]
        refine hreg_take (i := 10) rfl (by kernel_rfl) (by kernel_rfl) (by kernel_rfl) hreg_panic (by rfl) hHeld ?_
        apply Exists.intro
        refine ⟨fun w' hw' => ?_, ?_⟩
        · have hf := hall w' hw'
          go_simp
          try go_bits
          exact yieldsV_mk rfl
        simp only [Act.put, List.setIfInBounds_toArray, List.set_cons_zero, List.set_cons_succ]
        refine hreg_take (i := 11) rfl (by kernel_rfl) (by kernel_rfl) (by kernel_rfl) hreg_panic (by rfl) hHeld ?_
        apply Exists.intro
        refine ⟨fun w' hw' => ?_, ?_⟩
        · have hf := hall w' hw'
          go_simp
          try go_bits
          exact yieldsV_mk rfl
        simp only [Act.put, List.setIfInBounds_toArray, List.set_cons_zero, List.set_cons_succ]
        refine hreg_take (i := 12) rfl (by kernel_rfl) (by kernel_rfl) (by kernel_rfl) hreg_panic (by rfl) hHeld ?_
        apply Exists.intro
        refine ⟨fun w' hw' => ?_, ?_⟩
        · have hf := hall w' hw'
          go_simp
          try go_bits
          exact yieldsV_mk rfl
        simp only [Act.put, List.setIfInBounds_toArray, List.set_cons_zero, List.set_cons_succ]
        refine hreg_take (i := 13) rfl (by kernel_rfl) (by kernel_rfl) (by kernel_rfl) hreg_panic (by rfl) hHeld ?_
        apply Exists.intro
        refine ⟨fun w' hw' => ?_, ?_⟩
        · have hf := hall w' hw'
          go_simp
          try go_bits
          exact yieldsV_mk rfl
        simp only [Act.put, List.setIfInBounds_toArray, List.set_cons_zero, List.set_cons_succ]
        refine hreg_take (i := 14) rfl (by kernel_rfl) (by kernel_rfl) (by kernel_rfl) hreg_panic (by rfl) hHeld ?_
        apply Exists.intro
        refine ⟨fun w' hw' => ?_, ?_⟩
        · have hf := hall w' hw'
          go_simp
          try go_bits
          exact yieldsV_mk rfl
        simp only [Act.put, List.setIfInBounds_toArray, List.set_cons_zero, List.set_cons_succ]
        refine hreg_take (i := 15) rfl (by kernel_rfl) (by kernel_rfl) (by kernel_rfl) hreg_panic (by rfl) hHeld ?_
        apply Exists.intro
        refine ⟨fun w' hw' => ?_, ?_⟩
        · have hf := hall w' hw'
          go_simp
          try go_bits
          exact yieldsV_mk rfl
        simp only [Act.put, List.setIfInBounds_toArray, List.set_cons_zero, List.set_cons_succ]
        refine hreg_take (i := 16) rfl (by kernel_rfl) (by kernel_rfl) (by kernel_rfl) hreg_panic (by rfl) hHeld ?_
        apply Exists.intro
        refine ⟨fun w' hw' => ?_, ?_⟩
        · have hf := hall w' hw'
          go_simp
          try go_bits
          exact yieldsV_mk rfl
        simp only [Act.put, List.setIfInBounds_toArray, List.set_cons_zero, List.set_cons_succ]
        refine hreg_skip (i := 17) rfl (by kernel_rfl) (by kernel_rfl) (by kernel_rfl) hreg_panic (by rfl) hHeld ?_
        simp only [Act.put, List.setIfInBounds_toArray, List.set_cons_zero, List.set_cons_succ]
        refine hreg_skip (i := 18) rfl (by kernel_rfl) (by kernel_rfl) (by kernel_rfl) hreg_panic (by rfl) hHeld ?_
        simp only [Act.put, List.setIfInBounds_toArray, List.set_cons_zero, List.set_cons_succ]
        refine hreg_skip (i := 19) rfl (by kernel_rfl) (by kernel_rfl) (by kernel_rfl) hreg_panic (by rfl) hHeld ?_
        simp only [Act.put, List.setIfInBounds_toArray, List.set_cons_zero, List.set_cons_succ]
        refine hreg_take (i := 20) rfl (by kernel_rfl) (by kernel_rfl) (by kernel_rfl) hreg_panic (by rfl) hHeld ?_
        apply Exists.intro
        refine ⟨fun w' hw' => ?_, ?_⟩
        · have hf := hall w' hw'
          go_simp
          try go_bits
          exact yieldsV_mk rfl
        simp only [Act.put, List.setIfInBounds_toArray, List.set_cons_zero, List.set_cons_succ]
        refine hreg_take (i := 21) rfl (by kernel_rfl) (by kernel_rfl) (by kernel_rfl) hreg_panic (by rfl) hHeld ?_
        apply Exists.intro
        refine ⟨fun w' hw' => ?_, ?_⟩
        · have hf := hall w' hw'
          go_simp
          try go_bits
          exact yieldsV_mk rfl
        simp only [Act.put, List.setIfInBounds_toArray, List.set_cons_zero, List.set_cons_succ]
        refine wpAnyH_done (by kernel_rfl) ?_ _
        refine NoPanic.normal ?_
        have K_t2 := keepBlock hHeld.out K_t.out
        have K_u2 := keepBlock hHeld.out K_u.out
        have R_t := tx_row38 K_t2
        have R_u := tx_row38 K_u2
        have S_t := (Array.getElem?_eq_some_iff.1 K_t2).1
        have S_u := (Array.getElem?_eq_some_iff.1 K_u2).1
        have Lf := Box.mk (L.out.below hHeld.out)
        have Lf' := Box.mk (L'.out.below hHeld.out)
        have Bf := BW.out.trans (hHeld.out.mono BW.out.size)
        clear K_t2 K_u2 hall
        by_cases hx2 : x2 = 0
        · subst hx2
          obtain ⟨hw2, hsd2⟩ := well_of_encV hE2.out
          have hss : (s == s2) = sameB d e := by
            rw [Bool.eq_iff_iff, beq_iff_eq, sameB_iff, hsd.out, hsd2]
            exact ⟨fun h => encB_inj okd.out hw.out oke.out hw2 h, fun h => by rw [h]⟩
          replace hw2 := Box.mk hw2
          replace hsd2 := Box.mk hsd2
          go_wp2_with fail
          refine (txSame_any t u d e _ Lf.out Lf'.out hlt.out).mono ?_
          rintro e' w9 ⟨rfl, b9⟩
          rw [← hss]
          go_wp2
          go_ret
          exact gives_bool (by simp) (Bf.trans (b9.mono Bf.size))
        · have hx3 : (x2 == 0) = false := by simpa using hx2
          have hx4 : (x2 != 0) = true := by simpa using hx2
          go_wp2
          go_ret
          exact gives_bool rfl Bf
      exact AllReadyH.nil
    · have hNd := nameV_err hE.out hx
      rw [hN.out] at hNd
      injection hNd with hk hy
      subst hk hy
      have hx3 : (y == 0) = false := by simpa using hx
      have hx4 : (y != 0) = true := by simpa using hx
      refine hreg_begin (S := SinceP w7) (by kernel_rfl) (SinceP.refl _).drew (fun hHeld => ?_)
      simp only [List.length_cons, List.length_nil, Nat.zero_add, Nat.reduceAdd, Array.replicate]
      refine hreg_take (i := 0) rfl (by kernel_rfl) (by kernel_rfl) (by kernel_rfl) hreg_panic (by rfl) hHeld ?_
      apply Exists.intro
      refine ⟨fun w' hw' => ?_, ?_⟩
      · have hf := hall w' hw'
        go_simp
        try go_bits
        exact yieldsV_mk rfl
      simp only [Act.put, List.setIfInBounds_toArray, List.set_cons_zero, List.set_cons_succ]
      refine hreg_take (i := 1) rfl (by kernel_rfl) (by kernel_rfl) (by kernel_rfl) hreg_panic (by rfl) hHeld ?_
      apply Exists.intro
      refine ⟨fun w' hw' => ?_, ?_⟩
      · have hf := hall w' hw'
        go_simp
        try go_bits
        exact yieldsV_mk rfl
      simp only [Act.put, List.setIfInBounds_toArray, List.set_cons_zero, List.set_cons_succ]
      refine hreg_take (i := 2) rfl (by kernel_rfl) (by kernel_rfl) (by kernel_rfl) hreg_panic (by rfl) hHeld ?_
      apply Exists.intro
      refine ⟨fun w' hw' => ?_, ?_⟩
      · have hf := hall w' hw'
        go_simp
        try go_bits
        exact yieldsV_mk rfl
      simp only [Act.put, List.setIfInBounds_toArray, List.set_cons_zero, List.set_cons_succ]
      refine hreg_take (i := 3) rfl (by kernel_rfl) (by kernel_rfl) (by kernel_rfl) hreg_panic (by rfl) hHeld ?_
      apply Exists.intro
      refine ⟨fun w' hw' => ?_, ?_⟩
      · have hf := hall w' hw'
        go_simp
        try go_bits
        exact yieldsV_mk rfl
      simp only [Act.put, List.setIfInBounds_toArray, List.set_cons_zero, List.set_cons_succ]
      refine hreg_take (i := 4) rfl (by kernel_rfl) (by kernel_rfl) (by kernel_rfl) hreg_panic (by rfl) hHeld ?_
      apply Exists.intro
      refine ⟨fun w' hw' => ?_, ?_⟩
      · have hf := hall w' hw'
        go_simp
        try go_bits
        exact yieldsV_mk rfl
      simp only [Act.put, List.setIfInBounds_toArray, List.set_cons_zero, List.set_cons_succ]
      refine hreg_take (i := 5) rfl (by kernel_rfl) (by kernel_rfl) (by kernel_rfl) hreg_panic (by rfl) hHeld ?_
      apply Exists.intro
      refine ⟨fun w' hw' => ?_, ?_⟩
      · have hf := hall w' hw'
        go_simp
        try go_bits
        exact yieldsV_mk rfl
      simp only [Act.put, List.setIfInBounds_toArray, List.set_cons_zero, List.set_cons_succ]
      refine hreg_take (i := 6) rfl (by kernel_rfl) (by kernel_rfl) (by kernel_rfl) hreg_panic (by rfl) hHeld ?_
      apply Exists.intro
      refine ⟨fun w' hw' => ?_, ?_⟩
      · have hf := hall w' hw'
        go_simp
        try go_bits
        exact yieldsV_mk rfl
      simp only [Act.put, List.setIfInBounds_toArray, List.set_cons_zero, List.set_cons_succ]
      refine hreg_skip (i := 7) rfl (by kernel_rfl) (by kernel_rfl) (by kernel_rfl) hreg_panic (by rfl) hHeld ?_
      simp only [Act.put, List.setIfInBounds_toArray, List.set_cons_zero, List.set_cons_succ]
      refine hreg_skip (i := 8) rfl (by kernel_rfl) (by kernel_rfl) (by kernel_rfl) hreg_panic (by rfl) hHeld ?_
      simp only [Act.put, List.setIfInBounds_toArray, List.set_cons_zero, List.set_cons_succ]
      refine hreg_skip (i := 9) rfl (by kernel_rfl) (by kernel_rfl) (by kernel_rfl) hreg_panic (by rfl) hHeld ?_
      simp only [Act.put, List.setIfInBounds_toArray, List.set_cons_zero, List.set_cons_succ]
      refine hreg_skip (i := 10) rfl (by kernel_rfl) (by kernel_rfl) (by kernel_rfl) hreg_panic (by rfl) hHeld ?_
      simp only [Act.put, List.setIfInBounds_toArray, List.set_cons_zero, List.set_cons_succ]
      refine hreg_take (i := 11) rfl (by kernel_rfl) (by kernel_rfl) (by kernel_rfl) hreg_panic (by rfl) hHeld ?_
      apply Exists.intro
      refine ⟨fun w' hw' => ?_, ?_⟩
      · have hf := hall w' hw'
        go_simp
        try go_bits
        exact yieldsV_mk rfl
      simp only [Act.put, List.setIfInBounds_toArray, List.set_cons_zero, List.set_cons_succ]
      refine hreg_take (i := 12) rfl (by kernel_rfl) (by kernel_rfl) (by kernel_rfl) hreg_panic (by rfl) hHeld ?_
      apply Exists.intro
      refine ⟨fun w' hw' => ?_, ?_⟩
      · have hf := hall w' hw'
        go_simp
        try go_bits
        exact yieldsV_mk rfl
      simp only [Act.put, List.setIfInBounds_toArray, List.set_cons_zero, List.set_cons_succ]
      refine hreg_take (i := 13) rfl (by kernel_rfl) (by kernel_rfl) (by kernel_rfl) hreg_panic (by rfl) hHeld ?_
      apply Exists.intro
      refine ⟨fun w' hw' => ?_, ?_⟩
      · have hf := hall w' hw'
        go_simp
        try go_bits
        exact yieldsV_mk rfl
      simp only [Act.put, List.setIfInBounds_toArray, List.set_cons_zero, List.set_cons_succ]
      refine hreg_take (i := 14) rfl (by kernel_rfl) (by kernel_rfl) (by kernel_rfl) hreg_panic (by rfl) hHeld ?_
      apply Exists.intro
      refine ⟨fun w' hw' => ?_, ?_⟩
      · have hf := hall w' hw'
        go_simp
        try go_bits
        exact yieldsV_mk rfl
      simp only [Act.put, List.setIfInBounds_toArray, List.set_cons_zero, List.set_cons_succ]
      refine hreg_take (i := 15) rfl (by kernel_rfl) (by kernel_rfl) (by kernel_rfl) hreg_panic (by rfl) hHeld ?_
      apply Exists.intro
      refine ⟨fun w' hw' => ?_, ?_⟩
      · have hf := hall w' hw'
        go_simp
        try go_bits
        exact yieldsV_mk rfl
      simp only [Act.put, List.setIfInBounds_toArray, List.set_cons_zero, List.set_cons_succ]
      refine hreg_take (i := 16) rfl (by kernel_rfl) (by kernel_rfl) (by kernel_rfl) hreg_panic (by rfl) hHeld ?_
      apply Exists.intro
      refine ⟨fun w' hw' => ?_, ?_⟩
      · have hf := hall w' hw'
        go_simp
        try go_bits
        exact yieldsV_mk rfl
      simp only [Act.put, List.setIfInBounds_toArray, List.set_cons_zero, List.set_cons_succ]
      refine hreg_take (i := 17) rfl (by kernel_rfl) (by kernel_rfl) (by kernel_rfl) hreg_panic (by rfl) hHeld ?_
      apply Exists.intro
      refine ⟨fun w' hw' => ?_, ?_⟩
      · have hf := hall w' hw'
        go_simp
        try go_bits
        exact yieldsV_mk rfl
      simp only [Act.put, List.setIfInBounds_toArray, List.set_cons_zero, List.set_cons_succ]
      refine hreg_take (i := 18) rfl (by kernel_rfl) (by kernel_rfl) (by kernel_rfl) hreg_panic (by rfl) hHeld ?_
      apply Exists.intro
      refine ⟨fun w' hw' => ?_, ?_⟩
      · have hf := hall w' hw'
        go_simp
        try go_bits
        exact yieldsV_mk rfl
      simp only [Act.put, List.setIfInBounds_toArray, List.set_cons_zero, List.set_cons_succ]
      refine hreg_take (i := 19) rfl (by kernel_rfl) (by kernel_rfl) (by kernel_rfl) hreg_panic (by rfl) hHeld ?_
      apply Exists.intro
      refine ⟨fun w' hw' => ?_, ?_⟩
      · have hf := hall w' hw'
        go_simp
        try go_bits
        exact yieldsV_mk rfl
      simp only [Act.put, List.setIfInBounds_toArray, List.set_cons_zero, List.set_cons_succ]
      refine hreg_take (i := 20) rfl (by kernel_rfl) (by kernel_rfl) (by kernel_rfl) hreg_panic (by rfl) hHeld ?_
      apply Exists.intro
      refine ⟨fun w' hw' => ?_, ?_⟩
      · have hf := hall w' hw'
        go_simp
        try go_bits
        exact yieldsV_mk rfl
      simp only [Act.put, List.setIfInBounds_toArray, List.set_cons_zero, List.set_cons_succ]
      refine hreg_take (i := 21) rfl (by kernel_rfl) (by kernel_rfl) (by kernel_rfl) hreg_panic (by rfl) hHeld ?_
      apply Exists.intro
      refine ⟨fun w' hw' => ?_, ?_⟩
      · have hf := hall w' hw'
        go_simp
        try go_bits
        exact yieldsV_mk rfl
      simp only [Act.put, List.setIfInBounds_toArray, List.set_cons_zero, List.set_cons_succ]
      refine wpAnyH_done (by kernel_rfl) ?_ _
      refine NoPanic.normal ?_
      have Bf := BW.out.trans (hHeld.out.mono BW.out.size)
      go_wp2
      go_ret
      exact gives_bool rfl Bf

end Go.Proofs.Ytfnlgihkofkibaa
