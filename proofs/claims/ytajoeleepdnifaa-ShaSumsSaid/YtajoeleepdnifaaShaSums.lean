/- Layer 1: the hash of any bytes, and twice, and of two of them, is the document's. -/
import Derived.Test.YtajoeleepdnifaaShaRef5
namespace Go.Proofs.Ytajoeleepdnifaa
open Go.RowKit
set_option linter.unusedVariables false
set_option linter.unusedSimpArgs false
set_option maxRecDepth 100000
attribute [local irreducible] Int.lt Int.le
attribute [local go_sem ↓] load_key store_key alloc_key build0_key eq_key
attribute [local go_sem] rowOf_drew rowOf_alloc_old rowOf_alloc_new canPut_drew canPut_alloc_old canPut_alloc_new setCells_alloc_new

set_option maxHeartbeats 2000000 in
theorem shaSums_walk (s : List UInt8) (a b : Key) (W : World) : Calls Try.prog 13 #[.string (sB s), .agg (keyC a).toArray, .agg (keyC b).toArray] W (LawEnd W) := by
  by_cases hs : (2048 : Int) < s.length
  · go_enter Try.func13, Try.ntmps13
    go_wp2_with fail
    refine (shown01 _).mono ?_
    rintro e w1 ⟨rfl, hb1⟩
    go_wp2
    go_ret
    exact gives_bool rfl (Below.of hb1 (by simp; omega) (((Below.refl _ _).alloc (Nat.le_refl _) _).alloc (by simp) _))
  · have hs2 : s.length ≤ 1000000 := by omega
    replace hs2 := Box.mk hs2
    go_enter Try.func13, Try.ntmps13
    go_wp2_with fail
    refine (shown01 _).mono ?_
    rintro e w1 ⟨rfl, hb1⟩
    have hA := heap_alloc_new W (.cells (keyC a).toArray 35)
    have hA1 : ((W.alloc (.cells (keyC a).toArray 35)).alloc (.cells (keyC b).toArray 35)).heap[W.heap.size]? = _ := (Below.heap_alloc _ _ _ (by simp)).trans hA
    have hB1 : ((W.alloc (.cells (keyC a).toArray 35)).alloc (.cells (keyC b).toArray 35)).heap[W.heap.size + 1]? = _ := heap_alloc_new' _ _ _ (by simp)
    have hW1 : Below W.heap.size W ((W.alloc (.cells (keyC a).toArray 35)).alloc (.cells (keyC b).toArray 35)) := ((Below.refl _ _).alloc (Nat.le_refl _) _).alloc (by simp) _
    have hA2 := keepBlock hb1 hA1
    have hB2 := keepBlock hb1 hB1
    have hl2 := (Array.getElem?_eq_some_iff.1 hB2).1
    have hW2 : Below W.heap.size W w1 := hW1.trans (hb1.mono (by simp; omega))
    clear hA hA1 hB1 hW1 hb1
    obtain ⟨ab, hab⟩ : ∃ x, W.heap.size = x := ⟨_, rfl⟩
    rw [hab] at hA2 hB2 hl2
    rw [hab]
    have hall : ∀ w', SinceP w1 w' → (rowOf w' ab 0 32 = some (keyC a) ∧ rowOf w' (ab + 1) 0 32 = some (keyC b)) := fun w' h =>
      ⟨key_rowOf ((h.out.block _ (by omega)).trans hA2), key_rowOf ((h.out.block _ hl2).trans hB2)⟩
    replace hA2 := Box.mk hA2
    replace hB2 := Box.mk hB2
    replace hW2 := Box.mk hW2
    replace hab := Box.mk hab
    go_wp2_with fail
    refine hreg_begin (S := SinceP w1) (by kernel_rfl) (SinceP.refl _).drew (fun hHeld => ?_)
    simp only [List.length_cons, List.length_nil, Nat.zero_add, Nat.reduceAdd, Array.replicate]
    refine hreg_take (i := 0) rfl (by kernel_rfl) (by kernel_rfl) (by kernel_rfl) hreg_panic (by rfl) hHeld ?_
    apply Exists.intro
    refine ⟨fun w' hw' => ?_, ?_⟩
    · have hf := hall w' hw'
      go_simp
      try go_bits
      exact yieldsV_mk rfl
    simp only [Act.put, List.setIfInBounds_toArray, List.set_cons_zero, List.set_cons_succ]
    refine hreg_take (i := 2) rfl (by kernel_rfl) (by kernel_rfl) (by kernel_rfl) hreg_panic (by rfl) hHeld ?_
    apply Exists.intro
    refine ⟨fun w' hw' => ?_, ?_⟩
    · have hf := hall w' hw'
      go_simp
      try go_bits
      exact yieldsV_mk rfl
    simp only [Act.put, List.setIfInBounds_toArray, List.set_cons_zero, List.set_cons_succ]
    refine wpAnyH_ready (rs := [1]) (by kernel_rfl) (by simp) ?_
    refine hreg_event (o := _) rfl (by rfl) (fun K hK => ?_) ?_
    · go_simp
      first
        | (go_at_call 33; refine (sum_any s _ hs2.out).mono ?_; rintro e wn ⟨rfl, hbb⟩)
        | skip
      refine hK.out _ _ ?_ (fun hHeld' => ?_)
      · first
          | exact hHeld.next hbb
          | exact hHeld.next hb
          | exact hHeld
          | exact hHeld.alloc _
          | exact hHeld.setCell (by simp <;> omega) _
          | exact (hHeld.alloc _).alloc _
      replace hHeld := hHeld'
      clear hHeld' hK K
      simp only [Act.put, List.setIfInBounds_toArray, List.set_cons_zero, List.set_cons_succ]
      refine wpAnyH_ready (rs := [3]) (by kernel_rfl) (by simp) ?_
      refine hreg_event (o := _) rfl (by rfl) (fun K hK => ?_) ?_
      · go_simp
        first
          | (go_at_call 34; refine (refSum_any s _ hs2.out).mono ?_; rintro e wn ⟨rfl, hbb⟩)
          | skip
        refine hK.out _ _ ?_ (fun hHeld' => ?_)
        · first
            | exact hHeld.next hbb
            | exact hHeld.next hb
            | exact hHeld
            | exact hHeld.alloc _
            | exact hHeld.setCell (by simp <;> omega) _
            | exact (hHeld.alloc _).alloc _
        replace hHeld := hHeld'
        clear hHeld' hK K
        simp only [Act.put, List.setIfInBounds_toArray, List.set_cons_zero, List.set_cons_succ]
        refine hreg_take (i := 4) rfl (by kernel_rfl) (by kernel_rfl) (by kernel_rfl) hreg_panic (by rfl) hHeld ?_
        apply Exists.intro
        refine ⟨fun w' hw' => ?_, ?_⟩
        · have hf := hall w' hw'
          go_simp
          try go_bits
          exact yieldsV_mk rfl
        simp only [Act.put, List.setIfInBounds_toArray, List.set_cons_zero, List.set_cons_succ]
        refine hreg_take (i := 5) rfl (by kernel_rfl) (by kernel_rfl) (by kernel_rfl) hreg_panic (by rfl) hHeld ?_
        apply Exists.intro
        refine ⟨fun w' hw' => ?_, ?_⟩
        · have hf := hall w' hw'
          go_simp
          try go_bits
          exact yieldsV_mk rfl
        simp only [Act.put, List.setIfInBounds_toArray, List.set_cons_zero, List.set_cons_succ]
        refine hreg_take (i := 6) rfl (by kernel_rfl) (by kernel_rfl) (by kernel_rfl) hreg_panic (by rfl) hHeld ?_
        apply Exists.intro
        refine ⟨fun w' hw' => ?_, ?_⟩
        · have hf := hall w' hw'
          go_simp
          try go_bits
          exact yieldsV_mk rfl
        simp only [Act.put, List.setIfInBounds_toArray, List.set_cons_zero, List.set_cons_succ]
        refine hreg_take (i := 8) rfl (by kernel_rfl) (by kernel_rfl) (by kernel_rfl) hreg_panic (by rfl) hHeld ?_
        apply Exists.intro
        refine ⟨fun w' hw' => ?_, ?_⟩
        · have hf := hall w' hw'
          go_simp
          try go_bits
          exact yieldsV_mk rfl
        simp only [Act.put, List.setIfInBounds_toArray, List.set_cons_zero, List.set_cons_succ]
        refine wpAnyH_ready (rs := [7]) (by kernel_rfl) (by simp) ?_
        refine hreg_event (o := _) rfl (by rfl) (fun K hK => ?_) ?_
        · go_simp
          first
            | (go_at_call 35; refine (double_any s _ hs2.out).mono ?_; rintro e wn ⟨rfl, hbb⟩)
            | skip
          refine hK.out _ _ ?_ (fun hHeld' => ?_)
          · first
              | exact hHeld.next hbb
              | exact hHeld.next hb
              | exact hHeld
              | exact hHeld.alloc _
              | exact hHeld.setCell (by simp <;> omega) _
              | exact (hHeld.alloc _).alloc _
          replace hHeld := hHeld'
          clear hHeld' hK K
          simp only [Act.put, List.setIfInBounds_toArray, List.set_cons_zero, List.set_cons_succ]
          refine wpAnyH_ready (rs := [9]) (by kernel_rfl) (by simp) ?_
          refine hreg_event (o := _) rfl (by rfl) (fun K hK => ?_) ?_
          · go_simp
            first
              | (go_at_call 36; refine (refDouble_any s _ hs2.out).mono ?_; rintro e wn ⟨rfl, hbb⟩)
              | skip
            refine hK.out _ _ ?_ (fun hHeld' => ?_)
            · first
                | exact hHeld.next hbb
                | exact hHeld.next hb
                | exact hHeld
                | exact hHeld.alloc _
                | exact hHeld.setCell (by simp <;> omega) _
                | exact (hHeld.alloc _).alloc _
            replace hHeld := hHeld'
            clear hHeld' hK K
            simp only [Act.put, List.setIfInBounds_toArray, List.set_cons_zero, List.set_cons_succ]
            refine hreg_take (i := 10) rfl (by kernel_rfl) (by kernel_rfl) (by kernel_rfl) hreg_panic (by rfl) hHeld ?_
            apply Exists.intro
            refine ⟨fun w' hw' => ?_, ?_⟩
            · have hf := hall w' hw'
              go_simp
              try go_bits
              exact yieldsV_mk rfl
            simp only [Act.put, List.setIfInBounds_toArray, List.set_cons_zero, List.set_cons_succ]
            refine hreg_take (i := 11) rfl (by kernel_rfl) (by kernel_rfl) (by kernel_rfl) hreg_panic (by rfl) hHeld ?_
            apply Exists.intro
            refine ⟨fun w' hw' => ?_, ?_⟩
            · have hf := hall w' hw'
              go_simp
              try go_bits
              exact yieldsV_mk rfl
            simp only [Act.put, List.setIfInBounds_toArray, List.set_cons_zero, List.set_cons_succ]
            refine hreg_take (i := 12) rfl (by kernel_rfl) (by kernel_rfl) (by kernel_rfl) hreg_panic (by rfl) hHeld ?_
            apply Exists.intro
            refine ⟨fun w' hw' => ?_, ?_⟩
            · have hf := hall w' hw'
              go_simp
              try go_bits
              exact yieldsV_mk rfl
            simp only [Act.put, List.setIfInBounds_toArray, List.set_cons_zero, List.set_cons_succ]
            refine hreg_take (i := 13) rfl (by kernel_rfl) (by kernel_rfl) (by kernel_rfl) hreg_panic (by rfl) hHeld ?_
            apply Exists.intro
            refine ⟨fun w' hw' => ?_, ?_⟩
            · have hf := hall w' hw'
              go_simp
              try go_bits
              exact yieldsV_mk rfl
            simp only [Act.put, List.setIfInBounds_toArray, List.set_cons_zero, List.set_cons_succ]
            refine hreg_take (i := 14) rfl (by kernel_rfl) (by kernel_rfl) (by kernel_rfl) hreg_panic (by rfl) hHeld ?_
            apply Exists.intro
            refine ⟨fun w' hw' => ?_, ?_⟩
            · have hf := hall w' hw'
              go_simp
              try go_bits
              exact yieldsV_mk rfl
            simp only [Act.put, List.setIfInBounds_toArray, List.set_cons_zero, List.set_cons_succ]
            refine hreg_take (i := 16) rfl (by kernel_rfl) (by kernel_rfl) (by kernel_rfl) hreg_panic (by rfl) hHeld ?_
            apply Exists.intro
            refine ⟨fun w' hw' => ?_, ?_⟩
            · have hf := hall w' hw'
              go_simp
              try go_bits
              exact yieldsV_mk rfl
            simp only [Act.put, List.setIfInBounds_toArray, List.set_cons_zero, List.set_cons_succ]
            refine hreg_take (i := 17) rfl (by kernel_rfl) (by kernel_rfl) (by kernel_rfl) hreg_panic (by rfl) hHeld ?_
            apply Exists.intro
            refine ⟨fun w' hw' => ?_, ?_⟩
            · have hf := hall w' hw'
              go_simp
              try go_bits
              exact yieldsV_mk rfl
            simp only [Act.put, List.setIfInBounds_toArray, List.set_cons_zero, List.set_cons_succ]
            refine wpAnyH_ready (rs := [15]) (by kernel_rfl) (by simp) ?_
            refine hreg_event (o := _) rfl (by rfl) (fun K hK => ?_) ?_
            · go_simp
              first
                | (go_at_call 37; refine (pair_any a b _).mono ?_; rintro e wn ⟨rfl, hbb⟩)
                | skip
              refine hK.out _ _ ?_ (fun hHeld' => ?_)
              · first
                  | exact hHeld.next hbb
                  | exact hHeld.next hb
                  | exact hHeld
                  | exact hHeld.alloc _
                  | exact hHeld.setCell (by simp <;> omega) _
                  | exact (hHeld.alloc _).alloc _
              replace hHeld := hHeld'
              clear hHeld' hK K
              simp only [Act.put, List.setIfInBounds_toArray, List.set_cons_zero, List.set_cons_succ]
              refine wpAnyH_ready (rs := [18]) (by kernel_rfl) (by simp) ?_
              refine hreg_event (o := _) rfl (by rfl) (fun K hK => ?_) ?_
              · go_simp
                first
                  | (go_at_call 38; refine (refPair_any a b _).mono ?_; rintro e wn ⟨rfl, hbb⟩)
                  | skip
                refine hK.out _ _ ?_ (fun hHeld' => ?_)
                · first
                    | exact hHeld.next hbb
                    | exact hHeld.next hb
                    | exact hHeld
                    | exact hHeld.alloc _
                    | exact hHeld.setCell (by simp <;> omega) _
                    | exact (hHeld.alloc _).alloc _
                replace hHeld := hHeld'
                clear hHeld' hK K
                simp only [Act.put, List.setIfInBounds_toArray, List.set_cons_zero, List.set_cons_succ]
                refine hreg_take (i := 19) rfl (by kernel_rfl) (by kernel_rfl) (by kernel_rfl) hreg_panic (by rfl) hHeld ?_
                apply Exists.intro
                refine ⟨fun w' hw' => ?_, ?_⟩
                · have hf := hall w' hw'
                  go_simp
                  try go_bits
                  exact yieldsV_mk rfl
                simp only [Act.put, List.setIfInBounds_toArray, List.set_cons_zero, List.set_cons_succ]
                refine hreg_take (i := 20) rfl (by kernel_rfl) (by kernel_rfl) (by kernel_rfl) hreg_panic (by rfl) hHeld ?_
                apply Exists.intro
                refine ⟨fun w' hw' => ?_, ?_⟩
                · have hf := hall w' hw'
                  go_simp
                  try go_bits
                  exact yieldsV_mk rfl
                simp only [Act.put, List.setIfInBounds_toArray, List.set_cons_zero, List.set_cons_succ]
                refine hreg_take (i := 21) rfl (by kernel_rfl) (by kernel_rfl) (by kernel_rfl) hreg_panic (by rfl) hHeld ?_
                apply Exists.intro
                refine ⟨fun w' hw' => ?_, ?_⟩
                · have hf := hall w' hw'
                  go_simp
                  try go_bits
                  exact yieldsV_mk rfl
                simp only [Act.put, List.setIfInBounds_toArray, List.set_cons_zero, List.set_cons_succ]
                refine wpAnyH_done (by kernel_rfl) ?_ _
                refine NoPanic.normal ?_
                have hfin : Below W.heap.size W _ := hW2.out.trans (hHeld.out.mono (by rw [hab.out]; omega))
                go_wp2
                go_ret
                exact gives_bool rfl hfin
              exact AllReadyH.nil
            exact AllReadyH.nil
          exact AllReadyH.nil
        exact AllReadyH.nil
      exact AllReadyH.nil
    exact AllReadyH.nil

end Go.Proofs.Ytajoeleepdnifaa
