/- Package sha: the schedule's next word. -/
import Derived.Test.YtabikhmaiennpaaSha2
import Derived.Test.YtabikhmaiennpaaBase
namespace Go.Proofs.Ytabikhmaiennpaa
open Go.RowKit
set_option linter.unusedVariables false
set_option linter.unusedSimpArgs false
set_option maxRecDepth 100000

/-- Which word of the schedule stands at place j of sixteen, ahead of step i. -/
def lastI (i j : Nat) : Nat := if i ≤ 16 then j else i - 1 - (i - 1 - j) % 16
def cW (m : List UInt32) (i : Nat) : List UInt32 := (List.range 16).map fun j => Wd m (lastI i j)
theorem cW_length (m : List UInt32) (i : Nat) : (cW m i).length = 16 := by unfold cW; simp
theorem cW_get (m : List UInt32) (i j : Nat) (h : j < 16) : (cW m i)[j]? = some (Wd m (lastI i j)) := by
  unfold cW
  rw [List.getElem?_map, List.getElem?_range h]; rfl
theorem cW_low {m : List UInt32} (hm : m.length = 16) : ∀ i, i ≤ 16 → cW m i = m := fun i hi => by
  refine List.ext_getElem? fun j => ?_
  by_cases hj : j < 16
  · rw [cW_get m i j hj]
    unfold lastI
    rw [if_pos hi, Wd_low hm hj, List.getD_eq_getElem?_getD, List.getElem?_eq_getElem (by omega)]; rfl
  · rw [List.getElem?_eq_none (by rw [cW_length]; omega), List.getElem?_eq_none (by omega)]
theorem last_facts : ∀ i : Nat, i < 64 → 16 ≤ i → lastI i (i % 16) = i - 16 ∧ lastI i ((i + 1) % 16) = i - 15 ∧ lastI i ((i + 9) % 16) = i - 7 ∧ lastI i ((i + 14) % 16) = i - 2 := by decide +kernel
theorem last_step : ∀ i : Nat, i < 64 → 16 ≤ i → ∀ j : Nat, j < 16 → lastI (i + 1) j = if j = i % 16 then i else lastI i j := by decide +kernel
theorem cW_set (m : List UInt32) {i : Nat} (h : 16 ≤ i) (h2 : i < 64) : (cW m i).set (i % 16) (Wd m i) = cW m (i + 1) := by
  refine List.ext_getElem? fun j => ?_
  rw [List.getElem?_set]
  by_cases hj : j < 16
  · have := last_step i h2 h j hj
    by_cases e : i % 16 = j
    · rw [if_pos e, if_pos (by rw [cW_length]; omega), cW_get m (i + 1) j hj, this, if_pos e.symm]
    · rw [if_neg e, cW_get m i j hj, cW_get m (i + 1) j hj, this, if_neg (fun h => e h.symm)]
  · rw [if_neg (by omega), List.getElem?_eq_none (by rw [cW_length]; omega), List.getElem?_eq_none (by rw [cW_length]; omega)]
theorem and15 : ∀ i : Nat, i < 80 → bits .and .i64 (i : Int) 15 = ((i % 16 : Nat) : Int) := by decide +kernel

attribute [local irreducible] Int.lt Int.le
attribute [local go_sem] u_xor u_and u_or u_add u_add' u_shr3 u_shr10

/-- What a step of the schedule leaves. -/
structure NextEnd (m : List UInt32) (i wb : Nat) (W w' : World) : Prop where
  row : w'.heap[wb]? = some (.cells (uC (cW m (i + 1))).toArray 75 (0, 0))
  oth : Oth wb W w'

set_option maxHeartbeats 4000000 in
theorem next_any (m : List UInt32) (hm : m.length = 16) (i wb : Nat) (W : World) (hi : i < 64) (hH : W.heap[wb]? = some (.cells (uC (cW m i)).toArray 75 (0, 0))) :
    Calls Try.prog 37 #[.int .i64 i, .pointer (some ⟨wb, 0, none⟩)] W (fun e w' => e = .returned (.int .u32 (iw (Wd m i))) ∧ NextEnd m i wb W w') := by
  have hlt : wb < W.heap.size := (Array.getElem?_eq_some_iff.1 hH).1
  have a0 := and15 i (by omega)
  by_cases h16 : i < 16
  · have c0 := uC_cell hH (cW_get m i (i % 16) (by omega))
    have e0 : lastI i (i % 16) = i := by unfold lastI; rw [if_pos (by omega)]; omega
    rw [e0] at c0
    have hcw : cW m i = cW m (i + 1) := by rw [cW_low hm i (by omega), cW_low hm (i + 1) (by omega)]
    rw [hcw] at hH
    obtain ⟨j0, hj0⟩ : ∃ j, i % 16 = j := ⟨_, rfl⟩
    rw [hj0] at c0 a0
    have l0 : (j0 : Int) < 16 := by omega
    have hlt16 : ¬ (16 : Int) ≤ i := by omega
    replace hH := Box.mk hH
    replace hj0 := Box.mk hj0
    replace hcw := Box.mk hcw
    go_enter Try.func37, Try.ntmps37
    go_wp2
    go_ret
    exact ⟨rfl, hH.out, Oth.refl _ _⟩
  · have hge : 16 ≤ i := by omega
    obtain ⟨f0, f1, f9, f14⟩ := last_facts i hi hge
    have c0 := uC_cell hH (cW_get m i (i % 16) (by omega))
    have c1 := uC_cell hH (cW_get m i ((i + 1) % 16) (by omega))
    have c9 := uC_cell hH (cW_get m i ((i + 9) % 16) (by omega))
    have c14 := uC_cell hH (cW_get m i ((i + 14) % 16) (by omega))
    rw [f0] at c0
    rw [f1] at c1
    rw [f9] at c9
    rw [f14] at c14
    have a1 : bits .and .i64 ((i : Int) + 1) 15 = (((i + 1) % 16 : Nat) : Int) := and15 (i + 1) (by omega)
    have a9 : bits .and .i64 ((i : Int) + 9) 15 = (((i + 9) % 16 : Nat) : Int) := and15 (i + 9) (by omega)
    have a14 : bits .and .i64 ((i : Int) + 14) 15 = (((i + 14) % 16 : Nat) : Int) := and15 (i + 14) (by omega)
    have hset := cW_set m hge hi
    have hW := Wd_high hm hge hi
    have hst := heap_setCell_uC hH (i % 16) (Wd m i)
    rw [hset] at hst
    have fz : W.frozen? ⟨wb, i % 16, none⟩ = false := frozen_of_row _ _ _ _ _ hH
    obtain ⟨j0, hj0⟩ : ∃ j, i % 16 = j := ⟨_, rfl⟩
    obtain ⟨j1, hj1⟩ : ∃ j, (i + 1) % 16 = j := ⟨_, rfl⟩
    obtain ⟨j9, hj9⟩ : ∃ j, (i + 9) % 16 = j := ⟨_, rfl⟩
    obtain ⟨j14, hj14⟩ : ∃ j, (i + 14) % 16 = j := ⟨_, rfl⟩
    rw [hj0] at c0 a0 fz hst
    rw [hj1] at c1 a1
    rw [hj9] at c9 a9
    rw [hj14] at c14 a14
    have l0 : (j0 : Int) < 16 := by omega
    have l1 : (j1 : Int) < 16 := by omega
    have l9 : (j9 : Int) < 16 := by omega
    have l14 : (j14 : Int) < 16 := by omega
    have hge16 : (16 : Int) ≤ i := by omega
    have hi64 : (i : Int) < 64 := by omega
    generalize Wd m (i - 16) = x0 at *
    generalize Wd m (i - 15) = x1 at *
    generalize Wd m (i - 7) = x9 at *
    generalize Wd m (i - 2) = x14 at *
    generalize Wd m i = xn at *
    clear f0 f1 f9 f14
    replace hset := Box.mk hset
    replace hst := Box.mk hst
    replace hW := Box.mk hW
    replace hj0 := Box.mk hj0
    replace hj1 := Box.mk hj1
    replace hj9 := Box.mk hj9
    replace hj14 := Box.mk hj14
    replace hH := Box.mk hH
    go_enter Try.func37, Try.ntmps37
    go_wp2_with fail
    (refine region_since (by kernel_rfl) (by kernel_rfl) ?_)
    repeat (first
      | (refine wpQuiet_goff rfl rfl rfl rfl ?_; simp only [Act.put, List.setIfInBounds_toArray, List.set_cons_succ, List.set_cons_zero])
      | (first
           | refine wpQuiet_free rfl ?_
           | refine wpQuiet_gon rfl rfl rfl rfl ?_
         apply Exists.intro
         refine ⟨fun w' hw' => ?_, ?_⟩
         · (obtain ⟨hc', hr', hs'⟩ := since_facts hw'
            unfold Oper.quietAt
            go_simp
            try go_bits
            first
              | exact quietUpon_value rfl
              | exact rfl
              | (apply quietUpon_enter
                 first
                 | fail))
         simp only [Act.put, List.setIfInBounds_toArray, List.set_cons_succ, List.set_cons_zero]))
    first
      | refine wpQuiet_nil ?_
      | fail "QUIET stopped"
    intro wq hwq'
    have q0 : wq.cell? ⟨wb, j0, none⟩ = some (.int .u32 (iw x0)) := by rw [Below.cell hwq' (p := ⟨wb, j0, none⟩) hlt]; exact c0
    have q9 : wq.cell? ⟨wb, j9, none⟩ = some (.int .u32 (iw x9)) := by rw [Below.cell hwq' (p := ⟨wb, j9, none⟩) hlt]; exact c9
    have qf : wq.frozen? ⟨wb, j0, none⟩ = false := by rw [Below.frozen hwq' (p := ⟨wb, j0, none⟩) hlt]; exact fz
    have qs : wb < wq.heap.size := by have := Below.size hwq'; omega
    have qH : Box (wq.heap[wb]? = some (.cells (uC (cW m i)).toArray 75 (0, 0))) := Box.mk (by rw [Below.block hwq' wb hlt]; exact hH.out)
    have qB := Box.mk hwq'
    clear hwq' hst c0 c1 c9 c14 fz
    go_wp2_with fail
    have hall : ∀ w', SinceP wq w' → (w'.cell? ⟨wb, j0, none⟩ = some (.int .u32 (iw x0)) ∧ w'.cell? ⟨wb, j9, none⟩ = some (.int .u32 (iw x9)) ∧ w'.frozen? ⟨wb, j0, none⟩ = false ∧ wb < w'.heap.size) := fun w' h =>
      ⟨by rw [h.out.cell (p := ⟨wb, j0, none⟩) qs]; exact q0, by rw [h.out.cell (p := ⟨wb, j9, none⟩) qs]; exact q9, by rw [h.out.frozen (p := ⟨wb, j0, none⟩) qs]; exact qf, by have := h.out.size; omega⟩
    refine zreg_begin (z := 29) (S := SinceP wq) (by kernel_rfl) (SinceP.refl _).drew (fun hHeld => ?_)
    simp only [List.length_cons, List.length_nil, Nat.zero_add, Nat.reduceAdd, Array.replicate]
    refine zreg_take (i := 0) rfl (by kernel_rfl) (by kernel_rfl) (by kernel_rfl) (by kernel_rfl) hreg_panic (by rfl) hHeld ?_
    apply Exists.intro
    refine ⟨fun w' hw' => ?_, ?_⟩
    · have hf := hall w' hw'
      go_simp
      try go_bits
      exact yieldsV_mk rfl
    simp only [Act.put, List.setIfInBounds_toArray, List.set_cons_zero, List.set_cons_succ]
    refine zreg_take (i := 1) rfl (by kernel_rfl) (by kernel_rfl) (by kernel_rfl) (by kernel_rfl) hreg_panic (by rfl) hHeld ?_
    apply Exists.intro
    refine ⟨fun w' hw' => ?_, ?_⟩
    · have hf := hall w' hw'
      go_simp
      try go_bits
      exact yieldsV_mk rfl
    simp only [Act.put, List.setIfInBounds_toArray, List.set_cons_zero, List.set_cons_succ]
    refine zreg_take (i := 2) rfl (by kernel_rfl) (by kernel_rfl) (by kernel_rfl) (by kernel_rfl) hreg_panic (by rfl) hHeld ?_
    apply Exists.intro
    refine ⟨fun w' hw' => ?_, ?_⟩
    · have hf := hall w' hw'
      go_simp
      try go_bits
      exact yieldsV_mk rfl
    simp only [Act.put, List.setIfInBounds_toArray, List.set_cons_zero, List.set_cons_succ]
    refine zreg_take (i := 3) rfl (by kernel_rfl) (by kernel_rfl) (by kernel_rfl) (by kernel_rfl) hreg_panic (by rfl) hHeld ?_
    apply Exists.intro
    refine ⟨fun w' hw' => ?_, ?_⟩
    · have hf := hall w' hw'
      go_simp
      try go_bits
      exact yieldsV_mk rfl
    simp only [Act.put, List.setIfInBounds_toArray, List.set_cons_zero, List.set_cons_succ]
    refine zreg_take (i := 4) rfl (by kernel_rfl) (by kernel_rfl) (by kernel_rfl) (by kernel_rfl) hreg_panic (by rfl) hHeld ?_
    apply Exists.intro
    refine ⟨fun w' hw' => ?_, ?_⟩
    · have hf := hall w' hw'
      go_simp
      try go_bits
      exact yieldsV_mk rfl
    simp only [Act.put, List.setIfInBounds_toArray, List.set_cons_zero, List.set_cons_succ]
    refine zreg_take (i := 6) rfl (by kernel_rfl) (by kernel_rfl) (by kernel_rfl) (by kernel_rfl) hreg_panic (by rfl) hHeld ?_
    apply Exists.intro
    refine ⟨fun w' hw' => ?_, ?_⟩
    · have hf := hall w' hw'
      go_simp
      try go_bits
      exact yieldsV_mk rfl
    simp only [Act.put, List.setIfInBounds_toArray, List.set_cons_zero, List.set_cons_succ]
    refine zreg_take (i := 9) rfl (by kernel_rfl) (by kernel_rfl) (by kernel_rfl) (by kernel_rfl) hreg_panic (by rfl) hHeld ?_
    apply Exists.intro
    refine ⟨fun w' hw' => ?_, ?_⟩
    · have hf := hall w' hw'
      go_simp
      try go_bits
      exact yieldsV_mk rfl
    simp only [Act.put, List.setIfInBounds_toArray, List.set_cons_zero, List.set_cons_succ]
    refine zreg_take (i := 10) rfl (by kernel_rfl) (by kernel_rfl) (by kernel_rfl) (by kernel_rfl) hreg_panic (by rfl) hHeld ?_
    apply Exists.intro
    refine ⟨fun w' hw' => ?_, ?_⟩
    · have hf := hall w' hw'
      go_simp
      try go_bits
      exact yieldsV_mk rfl
    simp only [Act.put, List.setIfInBounds_toArray, List.set_cons_zero, List.set_cons_succ]
    refine zreg_take (i := 12) rfl (by kernel_rfl) (by kernel_rfl) (by kernel_rfl) (by kernel_rfl) hreg_panic (by rfl) hHeld ?_
    apply Exists.intro
    refine ⟨fun w' hw' => ?_, ?_⟩
    · have hf := hall w' hw'
      go_simp
      try go_bits
      exact yieldsV_mk rfl
    simp only [Act.put, List.setIfInBounds_toArray, List.set_cons_zero, List.set_cons_succ]
    refine zreg_take (i := 13) rfl (by kernel_rfl) (by kernel_rfl) (by kernel_rfl) (by kernel_rfl) hreg_panic (by rfl) hHeld ?_
    apply Exists.intro
    refine ⟨fun w' hw' => ?_, ?_⟩
    · have hf := hall w' hw'
      go_simp
      try go_bits
      exact yieldsV_mk rfl
    simp only [Act.put, List.setIfInBounds_toArray, List.set_cons_zero, List.set_cons_succ]
    refine zreg_take (i := 14) rfl (by kernel_rfl) (by kernel_rfl) (by kernel_rfl) (by kernel_rfl) hreg_panic (by rfl) hHeld ?_
    apply Exists.intro
    refine ⟨fun w' hw' => ?_, ?_⟩
    · have hf := hall w' hw'
      go_simp
      try go_bits
      exact yieldsV_mk rfl
    simp only [Act.put, List.setIfInBounds_toArray, List.set_cons_zero, List.set_cons_succ]
    refine zreg_take (i := 15) rfl (by kernel_rfl) (by kernel_rfl) (by kernel_rfl) (by kernel_rfl) hreg_panic (by rfl) hHeld ?_
    apply Exists.intro
    refine ⟨fun w' hw' => ?_, ?_⟩
    · have hf := hall w' hw'
      go_simp
      try go_bits
      exact yieldsV_mk rfl
    simp only [Act.put, List.setIfInBounds_toArray, List.set_cons_zero, List.set_cons_succ]
    refine zreg_take (i := 16) rfl (by kernel_rfl) (by kernel_rfl) (by kernel_rfl) (by kernel_rfl) hreg_panic (by rfl) hHeld ?_
    apply Exists.intro
    refine ⟨fun w' hw' => ?_, ?_⟩
    · have hf := hall w' hw'
      go_simp
      try go_bits
      exact yieldsV_mk rfl
    simp only [Act.put, List.setIfInBounds_toArray, List.set_cons_zero, List.set_cons_succ]
    refine zreg_take (i := 18) rfl (by kernel_rfl) (by kernel_rfl) (by kernel_rfl) (by kernel_rfl) hreg_panic (by rfl) hHeld ?_
    apply Exists.intro
    refine ⟨fun w' hw' => ?_, ?_⟩
    · have hf := hall w' hw'
      go_simp
      try go_bits
      exact yieldsV_mk rfl
    simp only [Act.put, List.setIfInBounds_toArray, List.set_cons_zero, List.set_cons_succ]
    refine zreg_take (i := 20) rfl (by kernel_rfl) (by kernel_rfl) (by kernel_rfl) (by kernel_rfl) hreg_panic (by rfl) hHeld ?_
    apply Exists.intro
    refine ⟨fun w' hw' => ?_, ?_⟩
    · have hf := hall w' hw'
      go_simp
      try go_bits
      exact yieldsV_mk rfl
    simp only [Act.put, List.setIfInBounds_toArray, List.set_cons_zero, List.set_cons_succ]
    refine zreg_take (i := 23) rfl (by kernel_rfl) (by kernel_rfl) (by kernel_rfl) (by kernel_rfl) hreg_panic (by rfl) hHeld ?_
    apply Exists.intro
    refine ⟨fun w' hw' => ?_, ?_⟩
    · have hf := hall w' hw'
      go_simp
      try go_bits
      exact yieldsV_mk rfl
    simp only [Act.put, List.setIfInBounds_toArray, List.set_cons_zero, List.set_cons_succ]
    refine zreg_take (i := 24) rfl (by kernel_rfl) (by kernel_rfl) (by kernel_rfl) (by kernel_rfl) hreg_panic (by rfl) hHeld ?_
    apply Exists.intro
    refine ⟨fun w' hw' => ?_, ?_⟩
    · have hf := hall w' hw'
      go_simp
      try go_bits
      exact yieldsV_mk rfl
    simp only [Act.put, List.setIfInBounds_toArray, List.set_cons_zero, List.set_cons_succ]
    refine wpAnyZ_ready (rs := [5]) (by kernel_rfl) (by simp) ?_
    refine zreg_event (o := _) rfl (by rfl) (by decide) (fun K hK => ?_) ?_
    · go_simp
      first
        | (go_at_call 38; refine (turn_any x1 7 _ (by omega) (by omega)).mono ?_; rintro e wn ⟨rfl, hb⟩)
        | skip
      refine hK.out _ _ ?_ (fun hHeld' => ?_)
      · first
          | exact hHeld.next hb
          | exact hHeld
          | exact hHeld.alloc _
          | exact hHeld.setCell (by simp <;> omega) _
          | exact (hHeld.alloc _).alloc _
      replace hHeld := hHeld'
      clear hHeld' hK K
      simp only [Act.put, List.setIfInBounds_toArray, List.set_cons_zero, List.set_cons_succ]
      refine wpAnyZ_ready (rs := [7]) (by kernel_rfl) (by simp) ?_
      refine zreg_event (o := _) rfl (by rfl) (by decide) (fun K hK => ?_) ?_
      · go_simp
        first
          | (go_at_call 38; refine (turn_any x1 18 _ (by omega) (by omega)).mono ?_; rintro e wn ⟨rfl, hb⟩)
          | skip
        refine hK.out _ _ ?_ (fun hHeld' => ?_)
        · first
            | exact hHeld.next hb
            | exact hHeld
            | exact hHeld.alloc _
            | exact hHeld.setCell (by simp <;> omega) _
            | exact (hHeld.alloc _).alloc _
        replace hHeld := hHeld'
        clear hHeld' hK K
        simp only [Act.put, List.setIfInBounds_toArray, List.set_cons_zero, List.set_cons_succ]
        refine zreg_take (i := 8) rfl (by kernel_rfl) (by kernel_rfl) (by kernel_rfl) (by kernel_rfl) hreg_panic (by rfl) hHeld ?_
        apply Exists.intro
        refine ⟨fun w' hw' => ?_, ?_⟩
        · have hf := hall w' hw'
          go_simp
          try go_bits
          exact yieldsV_mk rfl
        simp only [Act.put, List.setIfInBounds_toArray, List.set_cons_zero, List.set_cons_succ]
        refine zreg_take (i := 11) rfl (by kernel_rfl) (by kernel_rfl) (by kernel_rfl) (by kernel_rfl) hreg_panic (by rfl) hHeld ?_
        apply Exists.intro
        refine ⟨fun w' hw' => ?_, ?_⟩
        · have hf := hall w' hw'
          go_simp
          try go_bits
          exact yieldsV_mk rfl
        simp only [Act.put, List.setIfInBounds_toArray, List.set_cons_zero, List.set_cons_succ]
        refine zreg_take (i := 17) rfl (by kernel_rfl) (by kernel_rfl) (by kernel_rfl) (by kernel_rfl) hreg_panic (by rfl) hHeld ?_
        apply Exists.intro
        refine ⟨fun w' hw' => ?_, ?_⟩
        · have hf := hall w' hw'
          go_simp
          try go_bits
          exact yieldsV_mk rfl
        simp only [Act.put, List.setIfInBounds_toArray, List.set_cons_zero, List.set_cons_succ]
        refine wpAnyZ_ready (rs := [19]) (by kernel_rfl) (by simp) ?_
        refine zreg_event (o := _) rfl (by rfl) (by decide) (fun K hK => ?_) ?_
        · go_simp
          first
            | (go_at_call 38; refine (turn_any x14 17 _ (by omega) (by omega)).mono ?_; rintro e wn ⟨rfl, hb⟩)
            | skip
          refine hK.out _ _ ?_ (fun hHeld' => ?_)
          · first
              | exact hHeld.next hb
              | exact hHeld
              | exact hHeld.alloc _
              | exact hHeld.setCell (by simp <;> omega) _
              | exact (hHeld.alloc _).alloc _
          replace hHeld := hHeld'
          clear hHeld' hK K
          simp only [Act.put, List.setIfInBounds_toArray, List.set_cons_zero, List.set_cons_succ]
          refine wpAnyZ_ready (rs := [21]) (by kernel_rfl) (by simp) ?_
          refine zreg_event (o := _) rfl (by rfl) (by decide) (fun K hK => ?_) ?_
          · go_simp
            first
              | (go_at_call 38; refine (turn_any x14 19 _ (by omega) (by omega)).mono ?_; rintro e wn ⟨rfl, hb⟩)
              | skip
            refine hK.out _ _ ?_ (fun hHeld' => ?_)
            · first
                | exact hHeld.next hb
                | exact hHeld
                | exact hHeld.alloc _
                | exact hHeld.setCell (by simp <;> omega) _
                | exact (hHeld.alloc _).alloc _
            replace hHeld := hHeld'
            clear hHeld' hK K
            simp only [Act.put, List.setIfInBounds_toArray, List.set_cons_zero, List.set_cons_succ]
            refine zreg_take (i := 22) rfl (by kernel_rfl) (by kernel_rfl) (by kernel_rfl) (by kernel_rfl) hreg_panic (by rfl) hHeld ?_
            apply Exists.intro
            refine ⟨fun w' hw' => ?_, ?_⟩
            · have hf := hall w' hw'
              go_simp
              try go_bits
              exact yieldsV_mk rfl
            simp only [Act.put, List.setIfInBounds_toArray, List.set_cons_zero, List.set_cons_succ]
            refine zreg_take (i := 25) rfl (by kernel_rfl) (by kernel_rfl) (by kernel_rfl) (by kernel_rfl) hreg_panic (by rfl) hHeld ?_
            apply Exists.intro
            refine ⟨fun w' hw' => ?_, ?_⟩
            · have hf := hall w' hw'
              go_simp
              try go_bits
              exact yieldsV_mk rfl
            simp only [Act.put, List.setIfInBounds_toArray, List.set_cons_zero, List.set_cons_succ]
            refine zreg_take (i := 26) rfl (by kernel_rfl) (by kernel_rfl) (by kernel_rfl) (by kernel_rfl) hreg_panic (by rfl) hHeld ?_
            apply Exists.intro
            refine ⟨fun w' hw' => ?_, ?_⟩
            · have hf := hall w' hw'
              go_simp
              try go_bits
              exact yieldsV_mk rfl
            simp only [Act.put, List.setIfInBounds_toArray, List.set_cons_zero, List.set_cons_succ]
            refine zreg_take (i := 27) rfl (by kernel_rfl) (by kernel_rfl) (by kernel_rfl) (by kernel_rfl) hreg_panic (by rfl) hHeld ?_
            apply Exists.intro
            refine ⟨fun w' hw' => ?_, ?_⟩
            · have hf := hall w' hw'
              go_simp
              try go_bits
              exact yieldsV_mk rfl
            simp only [Act.put, List.setIfInBounds_toArray, List.set_cons_zero, List.set_cons_succ]
            refine zreg_take (i := 28) rfl (by kernel_rfl) (by kernel_rfl) (by kernel_rfl) (by kernel_rfl) hreg_panic (by rfl) hHeld ?_
            apply Exists.intro
            refine ⟨fun w' hw' => ?_, ?_⟩
            · have hf := hall w' hw'
              go_simp
              try go_bits
              exact yieldsV_mk rfl
            simp only [Act.put, List.setIfInBounds_toArray, List.set_cons_zero, List.set_cons_succ]
            refine wpAnyZ_ready (rs := [29]) (by kernel_rfl) (by simp) ?_
            refine zreg_last (o := _) rfl (by rfl) (fun K hK => ?_) ?_
            · go_simp
              first
                | (have hF := hall _ hHeld; have hBn := hHeld.out; go_simp)
                | skip
              refine hK.out _ _ ?_
              clear hK K hHeld
              simp only [Act.put, List.setIfInBounds_toArray, List.set_cons_zero, List.set_cons_succ]
              refine wpAnyZ_done (by kernel_rfl) ?_ _
              refine NoPanic.normal ?_
              have hW' : x0 + ((rotr x1 7 ^^^ rotr x1 18 ^^^ x1 >>> 3) + x9 + (rotr x14 17 ^^^ rotr x14 19 ^^^ x14 >>> 10)) = xn := hW.out.symm
              rw [hW']
              replace hW' := Box.mk hW'
              have hwn : wn.heap[wb]? = some (.cells (uC (cW m i)).toArray 75 (0, 0)) := by rw [hBn.block wb qs]; exact qH.out
              have hn := heap_setCell_uC hwn j0 xn
              rw [show (cW m i).set j0 xn = cW m (i + 1) from by rw [← hj0.out]; exact hset.out] at hn
              have hc0 : (cW m (i + 1))[j0]? = some xn := by rw [← hset.out, hj0.out, List.getElem?_set_self (by rw [cW_length]; omega)]
              have cn := uC_cell hn hc0
              have hot : Oth wb W (wn.setCell ⟨wb, j0, none⟩ (.int .u32 (iw xn))) := ((Oth.of qB.out).next hBn).setCell _ _
              generalize wn.setCell ⟨wb, j0, none⟩ (.int .u32 (iw xn)) = wz at *
              replace hn := Box.mk hn
              replace hot := Box.mk hot
              go_wp2
              go_ret
              exact ⟨rfl, hn.out, hot.out⟩
            exact AllReadyZ.nil
          exact AllReadyZ.nil
        exact AllReadyZ.nil
      exact AllReadyZ.nil
    exact AllReadyZ.nil

end Go.Proofs.Ytabikhmaiennpaa
