/- The document's own answers of layer 3: Key, Bytes. -/
import Derived.Test.YtfnlgihkofkibaaCodecRef2
namespace Go.Proofs.Ytfnlgihkofkibaa
set_option maxRecDepth 100000
open Go.RowKit
set_option linter.unusedVariables false
set_option linter.unusedSimpArgs false
attribute [local irreducible] Int.lt Int.le
attribute [local go_sem] sB_append le_length
attribute [local go_sem ↓] load_key store_key alloc_key build0_key eq_key append_u8
attribute [local go_sem] rowOf_drew rowOf_alloc_old rowOf_alloc_new canPut_drew canPut_alloc_old canPut_alloc_new setCells_alloc_new

theorem bC_nil : bC [] = [] := by unfold bC; rfl

set_option maxHeartbeats 1000000 in
theorem refBytes_any (k : Key) (W : World) : Calls Try.prog 55 #[.agg (keyC k).toArray] W (Gives (.string (sB k.val)) W) := by
  go_enter Try.func55, Try.ntmps55
  go_wp2_with fail
  have hB0 : Below W.heap.size W (W.alloc (.cells (keyC k).toArray 26)) := (Below.refl _ _).alloc (Nat.le_refl _) _
  have hr0 : rowOf (W.alloc (.cells (keyC k).toArray 26)) W.heap.size 0 32 = some (keyC k) := rowOf_alloc_new _ _ _ _ _ _ rfl (keyC_length k)
  obtain ⟨w1, hw1⟩ : ∃ w1, w1 = W.alloc (.cells (keyC k).toArray 26) := ⟨_, rfl⟩
  have hsz1 : w1.heap.size = W.heap.size + 1 := by rw [hw1]; simp
  rw [← hw1] at hB0 hr0 ⊢
  replace hw1 := Box.mk hw1
  have hO : OwnB (w1.alloc (.cells #[] 5)) (W.heap.size + 1) (.slice (some ⟨W.heap.size + 1, 0, none⟩) 0 0) (k.val.take 0) := by
    show OwnV _ _ _ _ (bC [])
    rw [bC_nil]
    exact OwnV.empty w1 (W.heap.size + 1) 5 (W.heap.size + 1) hsz1.symm (Nat.le_refl _)
  have hB1 : Below (W.heap.size + 1) w1 (w1.alloc (.cells #[] 5)) := (Below.refl _ _).alloc (by omega) _
  go_loopw [3, 4] (fun v i wr => Below (W.heap.size + 1) w1 wr ∧ ∃ j : Nat, j ≤ 32 ∧ i = .int .i64 j ∧ ∃ g c, v = .slice (some ⟨g, 0, none⟩) j c ∧ OwnB wr (W.heap.size + 1) (.slice (some ⟨g, 0, none⟩) j c) (k.val.take j)) (fun _ i _ => 32 - (intOf i).toNat)
  case atStart => exact ⟨hB1, 0, by omega, rfl, _, _, rfl, hO⟩
  case round =>
    obtain ⟨hbr, j, hj, rfl, g, c, rfl, hown⟩ := hrel
    have hsz := hbr.size
    have hk := k.2
    by_cases hlt : j < 32
    · have hlt' : (j : Int) < 32 := by omega
      have hx : k.val[j]? = some (k.val[j]'(by omega)) := List.getElem?_eq_getElem (by omega)
      have hcell : wr.cell? ⟨W.heap.size, j, none⟩ = some (.int .u8 ((k.val[j]'(by omega)).toNat : Int)) := by
        rw [hbr.cell (p := ⟨W.heap.size, j, none⟩) (Nat.lt_succ_self _)]
        have := (rowOf_some.1 hr0).2 j _ (by rw [keyC_bC]; exact bC_get hx)
        rwa [Nat.zero_add] at this
      have hs : k.val.take (j + 1) = k.val.take j ++ [k.val[j]'(by omega)] := by rw [List.take_add_one, hx]; rfl
      generalize k.val[j]'(by omega) = x at *
      clear hx
      go_wp2_with fail
      obtain ⟨g', c', w', hap, hown', hb', hs'⟩ := app_u8 (ty := 51) hown (by omega) x _ rfl (by rw [List.length_take]; omega)
      rw [List.length_take, Nat.min_eq_left (by omega)] at hap hown'
      rw [← hs] at hown'
      rw [hap]
      go_wp2
      go_roundw
      case rel => exact ⟨hbr.trans hb', j + 1, by omega, by go_num, g', c', rfl, hown'⟩
      case measure => simp [intOf]; omega
    · obtain rfl : j = 32 := by omega
      go_wp2_with fail
      rw [run_string_own hown, List.take_of_length_le (by omega)]
      go_wp2
      go_ret
      exact gives rfl (hB0.trans (hbr.mono (Nat.le_succ _)))

/-- The key in the midst of the loop. -/
def midK (s : List UInt8) (j : Nat) : List UInt8 := s.take j ++ List.replicate (32 - j) 0
theorem midK_length {s : List UInt8} {j : Nat} (h : 32 ≤ s.length) (hj : j ≤ 32) : (midK s j).length = 32 := by unfold midK; rw [List.length_append, List.length_take, List.length_replicate]; omega
theorem midK_set {s : List UInt8} {j : Nat} (h : 32 ≤ s.length) (hj : j < 32) : (midK s j).set j (s[j]'(by omega)) = midK s (j + 1) := by
  unfold midK
  rw [List.set_append_right _ _ (by rw [List.length_take]; omega), List.length_take, Nat.min_eq_left (by omega), Nat.sub_self, show 32 - j = (32 - (j + 1)) + 1 from by omega, List.replicate_succ, List.set_cons_zero, List.take_add_one, List.getElem?_eq_getElem (by omega), List.append_assoc]
  rfl

set_option maxHeartbeats 1000000 in
theorem refKey_any (s : List UInt8) (W : World) (hs : s.length ≤ 1000000000) : Calls Try.prog 65 #[.string (sB s)] W (Gives (valK (keyV s)) W) := by
  have hsz := sB_size s
  go_enter Try.func65, Try.ntmps65
  by_cases h32 : (s.length : Int) < 32
  · have hV : keyV s = (zeroKey, [], 30) := by unfold keyV; rw [dif_neg (by omega)]
    rw [hV]
    clear hV
    go_wp2
    obtain ⟨w2, hw2⟩ : ∃ w2, w2 = (W.alloc (.cells (keyC zeroKey).toArray 26)).alloc (.cells (keyC zeroKey).toArray 26) := ⟨_, rfl⟩
    have hp2 : canPut w2 W.heap.size 0 32 = true := by rw [hw2, canPut_alloc_old _ _ _ _ _ (by simp)]; simp [go_sem]
    have hb2 : Below W.heap.size W w2 := by rw [hw2]; exact ((Below.refl _ _).alloc (Nat.le_refl _) _).alloc (by simp) _
    have hrow := rowOf_of_rangeAt (World.rangeAt_setCells_same w2 W.heap.size 0 (keyC zeroKey) (by rw [keyC_length]; exact canPut_there.1 hp2)) (keyC_length zeroKey)
    rw [← hw2]
    refine bodyPost_ret (v := valK (zeroKey, [], 30)) (res3 Try.results65 (res_key (b := W.heap.size) (o := 0) (by simp [go_sem]) hrow) (v2 := .string (sB [])) (by simp [oneRes]; try rfl) (by simp [oneRes]; try rfl)) rfl ?_
    exact gives rfl (below_setCells (Nat.le_refl _) _ _ _ _ hb2)
  · have h32' : 32 ≤ s.length := by omega
    have hV : keyV s = (keyOf s h32', s.drop 32, 0) := by unfold keyV; rw [dif_pos h32']
    rw [hV]
    clear hV
    obtain ⟨k, hk⟩ : ∃ k, k = keyOf s h32' := ⟨_, rfl⟩
    rw [← hk]
    have hkv : bC (midK s 32) = keyC k := by
      rw [keyC_bC, hk]
      show bC (midK s 32) = bC (s.take 32)
      unfold midK
      simp
    replace hk := Box.mk hk
    replace hkv := Box.mk hkv
    have hx2 : (sB s).extract 32 s.length = sB (s.drop 32) := by rw [sB_extract, List.take_length]
    generalize s.drop 32 = r at *
    have e0 : keyC zeroKey = bC (midK s 0) := by rw [keyC_bC]; rfl
    replace e0 := Box.mk e0
    go_wp2_with fail
    obtain ⟨A, hA⟩ : ∃ A, A = W.alloc (.cells (keyC zeroKey).toArray 26) := ⟨_, rfl⟩
    have hszA : A.heap.size = W.heap.size + 1 := by rw [hA]; simp
    have hbA : Below W.heap.size W A := by rw [hA]; exact (Below.refl _ _).alloc (Nat.le_refl _) _
    have hpA : canPut A W.heap.size 0 32 = true := by rw [hA]; simp [go_sem]
    rw [← hA, ← hszA]
    replace hA := Box.mk hA
    replace hszA := Box.mk hszA
    rw [e0.out]
    go_loopw [6] (fun i wr => ∃ j : Nat, j ≤ 32 ∧ i = .int .i64 j ∧ wr = A.alloc (.cells (bC (midK s j)).toArray 26)) (fun i _ => 32 - (intOf i).toNat)
    case atStart => exact ⟨0, by omega, rfl, rfl⟩
    case round =>
      obtain ⟨j, hj, rfl, rfl⟩ := hrel
      by_cases hlt : j < 32
      · have hlt' : (j : Int) < 32 := by omega
        have hx := midK_length h32' hj
        have hjs : j < s.length := by omega
        go_wp2_with fail
        refine ⟨⟨j + 1, by omega, by go_num, ?_⟩, by simp [intOf]; omega⟩
        rw [sB_get hjs, bC_set, midK_set h32' hlt]
      · obtain rfl : j = 32 := by omega
        rw [hkv.out]
        have hlt0 : W.heap.size < A.heap.size := by have := hszA.out; omega
        go_wp2_with fail
        have hr8 : rowOf (A.alloc (.cells (keyC k).toArray 26)) A.heap.size 0 32 = some (keyC k) := rowOf_alloc_new _ _ _ _ _ _ rfl (keyC_length k)
        have hb8 : Below W.heap.size W (A.alloc (.cells (keyC k).toArray 26)) := hbA.alloc (by omega) _
        have hp8 : canPut (A.alloc (.cells (keyC k).toArray 26)) W.heap.size 0 32 = true := by rw [canPut_alloc_old _ _ _ _ _ hlt0]; exact hpA
        obtain ⟨w8, hw8⟩ : ∃ w8, w8 = A.alloc (.cells (keyC k).toArray 26) := ⟨_, rfl⟩
        have hlt8 : W.heap.size < w8.heap.size := by rw [hw8]; simp; omega
        rw [← hw8] at hb8 hp8 hr8 ⊢
        replace hw8 := Box.mk hw8
        have hall : ∀ w', KeyS W.heap.size w8 w' → W.heap.size < w'.heap.size := fun w' h => h.lt
        refine hreg_begin (S := KeyS W.heap.size w8) (by kernel_rfl) ⟨(SinceB.refl (by omega)).drew, by rw [canPut_drew]; exact hp8, hlt8⟩ (fun hHeld => ?_)
        simp only [List.length_cons, List.length_nil, Nat.zero_add, Nat.reduceAdd, Array.replicate]
        refine hreg_take (i := 1) rfl (by kernel_rfl) (by kernel_rfl) (by kernel_rfl) hreg_panic (by rfl) hHeld ?_
        apply Exists.intro
        refine ⟨fun w' hw' => ?_, ?_⟩
        · have hf := hall w' hw'
          go_simp
          try go_bits
          exact yieldsV_mk rfl
        simp only [Act.put, List.setIfInBounds_toArray, List.set_cons_zero, List.set_cons_succ]
        refine hreg_take (i := 2) rfl (by kernel_rfl) (by kernel_rfl) (by kernel_rfl) hreg_panic (by rfl) hHeld ?_
        apply Exists.intro
        refine ⟨fun w' hw' => ?_, ?_⟩
        · have hf := hall w' hw'
          go_simp
          try go_bits
          exact yieldsV_mk rfl
        simp only [Act.put, List.setIfInBounds_toArray, List.set_cons_zero, List.set_cons_succ]
        refine wpAnyH_ready (rs := [0]) (by kernel_rfl) (by simp) ?_
        refine hreg_event (o := _) rfl (by rfl) (fun K hK => ?_) ?_
        · go_simp
          first
            | (have hcp := hHeld.put; go_simp)
            | skip
          refine hK.out _ _ ?_ (fun hHeld' => ?_)
          · first
              | exact hHeld
              | exact ⟨⟨below_setCells (Nat.le_refl _) _ _ _ _ hHeld.since.out, hHeld.since.le⟩, canPut_there.2 (World.there_setCells (canPut_there.1 hHeld.put) _ _ _), by rw [setCells_size]; exact hHeld.lt⟩
              | exact hHeld.next hb
              | exact hHeld
              | exact hHeld.alloc _
              | exact hHeld.setCell (by simp <;> omega) _
              | exact (hHeld.alloc _).alloc _
          replace hHeld := hHeld'
          clear hHeld' hK K
          simp only [Act.put, List.setIfInBounds_toArray, List.set_cons_zero, List.set_cons_succ]
          refine wpAnyH_ready (rs := [3]) (by kernel_rfl) (by simp) ?_
          refine hreg_event (o := _) rfl (by rfl) (fun K hK => ?_) ?_
          · go_simp
            first
              | (have hcp := hHeld.put; go_simp)
              | skip
            refine hK.out _ _ ?_ (fun hHeld' => ?_)
            · first
                | exact hHeld
                | exact ⟨⟨below_setCells (Nat.le_refl _) _ _ _ _ hHeld.since.out, hHeld.since.le⟩, canPut_there.2 (World.there_setCells (canPut_there.1 hHeld.put) _ _ _), by rw [setCells_size]; exact hHeld.lt⟩
                | exact hHeld.next hb
                | exact hHeld
                | exact hHeld.alloc _
                | exact hHeld.setCell (by simp <;> omega) _
                | exact (hHeld.alloc _).alloc _
            replace hHeld := hHeld'
            clear hHeld' hK K
            simp only [Act.put, List.setIfInBounds_toArray, List.set_cons_zero, List.set_cons_succ]
            refine hreg_take (i := 4) rfl (by kernel_rfl) (by kernel_rfl) (by kernel_rfl) hreg_panic (by rfl) hHeld ?_
            apply Exists.intro
            refine ⟨fun w' hw' => ?_, ?_⟩
            · have hf := hall w' hw'
              go_simp
              try go_bits
              exact yieldsV_mk rfl
            simp only [Act.put, List.setIfInBounds_toArray, List.set_cons_zero, List.set_cons_succ]
            refine hreg_take (i := 5) rfl (by kernel_rfl) (by kernel_rfl) (by kernel_rfl) hreg_panic (by rfl) hHeld ?_
            apply Exists.intro
            refine ⟨fun w' hw' => ?_, ?_⟩
            · have hf := hall w' hw'
              go_simp
              try go_bits
              exact yieldsV_mk rfl
            simp only [Act.put, List.setIfInBounds_toArray, List.set_cons_zero, List.set_cons_succ]
            refine wpAnyH_done (by kernel_rfl) ?_ _
            refine NoPanic.normal ?_
            have hrow := rowOf_of_rangeAt (World.rangeAt_setCells_same _ W.heap.size 0 (keyC k) (by rw [keyC_length]; exact canPut_there.1 hcp)) (keyC_length k)
            obtain ⟨wf, hwf⟩ : ∃ wf, wf = w8.drew.setCells W.heap.size 0 (keyC k) := ⟨_, rfl⟩
            rw [← hwf] at hrow hHeld ⊢
            replace hwf := Box.mk hwf
            go_wp2
            refine bodyPost_ret (v := valK (k, r, 0)) (res3 Try.results65 (res_key (b := W.heap.size) (o := 0) (by simp [go_sem]) hrow) (v2 := .string (sB r)) (by simp [oneRes]; try rfl) (by simp [oneRes]; try rfl)) rfl ?_
            exact gives rfl (hb8.trans hHeld.since.out)
          exact AllReadyH.nil
        exact AllReadyH.nil

end Go.Proofs.Ytfnlgihkofkibaa
