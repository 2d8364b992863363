/- Package tree: Empty. -/
import Derived.Test.YtabikhmaiennpaaTreeT
import Derived.Test.YtabikhmaiennpaaSha9
import Derived.Test.YtabikhmaiennpaaBase
namespace Go.Proofs.Ytabikhmaiennpaa
open Go.RowKit
set_option linter.unusedVariables false
set_option linter.unusedSimpArgs false
set_option maxRecDepth 100000

/-- The roots of nothing. -/
def emp : Nat → Key
  | 0 => zeroKey
  | n + 1 => pairK (emp n) (emp n)
/-- The first of them, up to j. -/
def empE (j : Nat) : A33 := ⟨(List.range 33).map fun i => if i ≤ j then emp i else zeroKey, by simp⟩
theorem empE_at (j : Nat) {i : Nat} (hi : i < 33) : (empE j).l[i]? = some (if i ≤ j then emp i else zeroKey) := by
  show ((List.range 33).map fun i => if i ≤ j then emp i else zeroKey)[i]? = _
  rw [List.getElem?_map, List.getElem?_range hi]; rfl
theorem A33.ext' {a b : A33} (h : ∀ i, i < 33 → a.l[i]? = b.l[i]?) : a = b := by
  cases a with | mk l hl => cases b with | mk m hm =>
  have : l = m := List.ext_getElem? fun i => by
    by_cases hi : i < 33
    · exact h i hi
    · rw [List.getElem?_eq_none (by omega), List.getElem?_eq_none (by omega)]
  subst this; rfl
theorem empE_zero : zero33 = empE 0 := A33.ext' fun i hi => by
  rw [empE_at 0 hi]
  show (List.replicate 33 zeroKey)[i]? = _
  rw [List.getElem?_replicate, if_pos hi]
  by_cases h : i ≤ 0
  · have : i = 0 := by omega
    subst this; rfl
  · rw [if_neg h]
theorem empE_succ (j : Nat) (hj : j < 32) : (empE j).set (j + 1) (emp (j + 1)) = empE (j + 1) := A33.ext' fun i hi => by
  rw [empE_at _ hi]
  show ((empE j).l.set (j + 1) (emp (j + 1)))[i]? = _
  rw [List.getElem?_set]
  by_cases h : j + 1 = i
  · subst h
    rw [if_pos rfl, if_pos (by rw [(empE j).h]; omega), if_pos (Nat.le_refl _)]
  · rw [if_neg h, empE_at _ hi]
    by_cases h2 : i ≤ j
    · rw [if_pos h2, if_pos (by omega)]
    · rw [if_neg h2, if_neg (by omega)]
attribute [local irreducible] Int.lt Int.le
attribute [local go_sem ↓] load_key store_key alloc_key build0_key eq_key load_a33 store_a33 alloc_a33 load_tree store_tree alloc_tree build0_tree
attribute [local go_sem] rowOf_drew canPut_drew canPut_alloc_old canPut_alloc_new

set_option maxHeartbeats 4000000 in
theorem empty_any (W : World) : Calls Try.prog 13 #[] W (Gives (.agg (a33C (empE 32)).toArray) W) := by
  have hA0 : A3 (W.alloc (.cells (a33C zero33).toArray 40)) W.heap.size (empE 0) := by rw [empE_zero]; exact heap_alloc_new W _
  have hB0 : Below W.heap.size W (W.alloc (.cells (a33C zero33).toArray 40)) := (Below.refl _ _).alloc (Nat.le_refl _) _
  replace hA0 := Box.mk hA0
  replace hB0 := Box.mk hB0
  go_enter Try.func13, Try.ntmps13
  go_wp2_with fail
  generalize W.alloc (.cells (a33C zero33).toArray 40) = w0 at *
  obtain ⟨b, hb⟩ : ∃ b, W.heap.size = b := ⟨_, rfl⟩
  rw [hb] at hA0 ⊢
  replace hb := Box.mk hb
  go_loopw [4] (fun i wr => Below W.heap.size W wr ∧ ∃ j : Nat, j ≤ 32 ∧ i = .int .i64 j ∧ A3 wr b (empE j)) (fun i _ => 32 - (intOf i).toNat)
  case atStart => exact ⟨hB0.out, 0, Nat.zero_le _, rfl, hA0.out⟩
  case round =>
    obtain ⟨hB, j, hj, rfl, hA⟩ := hrel
    have hlt := hA.lt
    by_cases hj2 : j < 32
    · have hjl : (j : Int) < 32 := by omega
      have hjl3 : (j : Int) < 33 := by omega
      have hjl4 : (j : Int) + 1 < 33 := by omega
      have r0 := hA.part (i := j) (k := emp j) (by rw [empE_at _ (by omega), if_pos (Nat.le_refl _)])
      have hall : ∀ w', SinceP wr w' → (rowOf w' b (j * 32) 32 = some (keyC (emp j)) ∧ b < w'.heap.size) := fun w' hw =>
        ⟨(rowOf_congr (hw.out.block b hlt) _ _).trans r0, Nat.lt_of_lt_of_le hlt hw.out.size⟩
      replace hA := Box.mk hA
      replace hB := Box.mk hB
      have he : emp (j + 1) = pairK (emp j) (emp j) := rfl
      obtain ⟨kj, hkj⟩ : ∃ k, emp j = k := ⟨_, rfl⟩
      rw [hkj] at he r0 hall
      replace he := Box.mk he
      replace hkj := Box.mk hkj
      clear r0
      go_wp2_with fail
      refine zreg_begin (z := 10) (S := SinceP wr) (by kernel_rfl) (SinceP.refl _).drew (fun hHeld => ?_)
      simp only [List.length_cons, List.length_nil, Nat.zero_add, Nat.reduceAdd, Array.replicate]
      refine zreg_take (i := 0) rfl (by kernel_rfl) (by kernel_rfl) (by kernel_rfl) (by kernel_rfl) hreg_panic (by rfl) hHeld ?_
      apply Exists.intro
      refine ⟨fun w' hw' => ?_, ?_⟩
      · have hf := hall w' hw'
        go_simp
        try go_bits
        exact yieldsV_mk rfl
      simp only [Act.put, List.setIfInBounds_toArray, List.set_cons_zero, List.set_cons_succ]
      refine zreg_take (i := 1) rfl (by kernel_rfl) (by kernel_rfl) (by kernel_rfl) (by kernel_rfl) hreg_panic (by rfl) hHeld ?_
      apply Exists.intro
      refine ⟨fun w' hw' => ?_, ?_⟩
      · have hf := hall w' hw'
        go_simp
        try go_bits
        exact yieldsV_mk rfl
      simp only [Act.put, List.setIfInBounds_toArray, List.set_cons_zero, List.set_cons_succ]
      refine zreg_take (i := 2) rfl (by kernel_rfl) (by kernel_rfl) (by kernel_rfl) (by kernel_rfl) hreg_panic (by rfl) hHeld ?_
      apply Exists.intro
      refine ⟨fun w' hw' => ?_, ?_⟩
      · have hf := hall w' hw'
        go_simp
        try go_bits
        exact yieldsV_mk rfl
      simp only [Act.put, List.setIfInBounds_toArray, List.set_cons_zero, List.set_cons_succ]
      refine zreg_take (i := 3) rfl (by kernel_rfl) (by kernel_rfl) (by kernel_rfl) (by kernel_rfl) hreg_panic (by rfl) hHeld ?_
      apply Exists.intro
      refine ⟨fun w' hw' => ?_, ?_⟩
      · have hf := hall w' hw'
        go_simp
        try go_bits
        exact yieldsV_mk rfl
      simp only [Act.put, List.setIfInBounds_toArray, List.set_cons_zero, List.set_cons_succ]
      refine zreg_take (i := 4) rfl (by kernel_rfl) (by kernel_rfl) (by kernel_rfl) (by kernel_rfl) hreg_panic (by rfl) hHeld ?_
      apply Exists.intro
      refine ⟨fun w' hw' => ?_, ?_⟩
      · have hf := hall w' hw'
        go_simp
        try go_bits
        exact yieldsV_mk rfl
      simp only [Act.put, List.setIfInBounds_toArray, List.set_cons_zero, List.set_cons_succ]
      refine zreg_take (i := 5) rfl (by kernel_rfl) (by kernel_rfl) (by kernel_rfl) (by kernel_rfl) hreg_panic (by rfl) hHeld ?_
      apply Exists.intro
      refine ⟨fun w' hw' => ?_, ?_⟩
      · have hf := hall w' hw'
        go_simp
        try go_bits
        exact yieldsV_mk rfl
      simp only [Act.put, List.setIfInBounds_toArray, List.set_cons_zero, List.set_cons_succ]
      refine zreg_take (i := 6) rfl (by kernel_rfl) (by kernel_rfl) (by kernel_rfl) (by kernel_rfl) hreg_panic (by rfl) hHeld ?_
      apply Exists.intro
      refine ⟨fun w' hw' => ?_, ?_⟩
      · have hf := hall w' hw'
        go_simp
        try go_bits
        exact yieldsV_mk rfl
      simp only [Act.put, List.setIfInBounds_toArray, List.set_cons_zero, List.set_cons_succ]
      refine zreg_take (i := 7) rfl (by kernel_rfl) (by kernel_rfl) (by kernel_rfl) (by kernel_rfl) hreg_panic (by rfl) hHeld ?_
      apply Exists.intro
      refine ⟨fun w' hw' => ?_, ?_⟩
      · have hf := hall w' hw'
        go_simp
        try go_bits
        exact yieldsV_mk rfl
      simp only [Act.put, List.setIfInBounds_toArray, List.set_cons_zero, List.set_cons_succ]
      refine wpAnyZ_ready (rs := [8]) (by kernel_rfl) (by simp) ?_
      refine zreg_event (o := _) rfl (by rfl) (by decide) (fun K hK => ?_) ?_
      · go_simp
        first
          | (go_at_call 18; refine (pair_any kj kj _).mono ?_; rintro e wn ⟨rfl, hbn⟩; have hAn := (hA.out.below (Below.refl _ _).drew).below hbn; have hcp := hAn.can ((j + 1) * 32) 32 (by omega); have hln := hAn.lt; replace hAn := Box.mk hAn)
          | skip
        refine hK.out _ _ ?_ (fun hHeld' => ?_)
        · first
            | exact hHeld.next hbn
            | exact hHeld.next hb
            | exact hHeld
            | exact hHeld.alloc _
            | exact hHeld.setCell (by simp <;> omega) _
            | exact (hHeld.alloc _).alloc _
        replace hHeld := hHeld'
        clear hHeld' hK K
        simp only [Act.put, List.setIfInBounds_toArray, List.set_cons_zero, List.set_cons_succ]
        refine zreg_take (i := 9) rfl (by kernel_rfl) (by kernel_rfl) (by kernel_rfl) (by kernel_rfl) hreg_panic (by rfl) hHeld ?_
        apply Exists.intro
        refine ⟨fun w' hw' => ?_, ?_⟩
        · have hf := hall w' hw'
          go_simp
          try go_bits
          exact yieldsV_mk rfl
        simp only [Act.put, List.setIfInBounds_toArray, List.set_cons_zero, List.set_cons_succ]
        refine wpAnyZ_ready (rs := [10]) (by kernel_rfl) (by simp) ?_
        refine zreg_last (o := _) rfl (by rfl) (fun K hK => ?_) ?_
        · go_simp
          first
            | skip
          refine hK.out _ _ ?_
          clear hK K hHeld
          simp only [Act.put, List.setIfInBounds_toArray, List.set_cons_zero, List.set_cons_succ]
          refine wpAnyZ_done (by kernel_rfl) ?_ _
          refine NoPanic.normal ?_
          have hAf := hAn.out.put (i := j + 1) (by omega) (pairK kj kj)
          rw [← he.out, empE_succ j hj2] at hAf
          have hBf := Box.mk (below_setCells (B := W.heap.size) (b := b) (by have := hb.out; omega) (keyC (pairK kj kj)) ((j + 1) * 32) _ _ (hB.out.trans ((((Below.refl wr.heap.size wr).drew).trans (hbn.mono (Nat.le_refl _))).mono hB.out.size)))
          rw [he.out] at hAf
          replace hAf := Box.mk hAf
          clear hall hbn hcp
          go_wp2
          go_roundw
          case rel => exact ⟨hBf.out, j + 1, by omega, by go_num, hAf.out⟩
          case measure => simp [intOf]; omega
        exact AllReadyZ.nil
      exact AllReadyZ.nil
    · obtain rfl : j = 32 := by omega
      have r0 := hA.row
      have hcp := hA.can 0 1056 (by omega)
      have hrow : rowOf (wr.setCells b 0 (a33C (empE 32))) b 0 1056 = some (a33C (empE 32)) := rowOf_of_rangeAt (World.rangeAt_setCells_same wr b 0 (a33C (empE 32)) (by rw [a33C_length]; exact canPut_there.1 hcp)) (a33C_length _)
      have hBf := Box.mk (below_setCells (B := W.heap.size) (b := b) (by have := hb.out; omega) (a33C (empE 32)) 0 _ _ hB)
      replace hA := Box.mk hA
      replace hB := Box.mk hB
      replace hrow := Box.mk hrow
      go_wp2
      refine bodyPost_ret (v := .agg (a33C (empE 32)).toArray) (res1 Try.results13 (res_a33 (b := b) (o := 0) (by simp [go_sem]) hrow.out)) rfl ?_
      exact gives rfl hBf.out
end Go.Proofs.Ytabikhmaiennpaa
