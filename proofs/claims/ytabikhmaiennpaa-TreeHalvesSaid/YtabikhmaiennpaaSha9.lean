/- Package sha: Double, Pair. -/
import Derived.Test.YtabikhmaiennpaaSha8
namespace Go.Proofs.Ytabikhmaiennpaa
open Go.RowKit Go.Shelf
set_option linter.unusedVariables false
set_option linter.unusedSimpArgs false
set_option maxRecDepth 100000

def doubleK (s : List UInt8) : Key := sumK (sumK s).val
def pairK (a b : Key) : Key := doubleK (a.val ++ b.val)
attribute [local irreducible] Int.lt Int.le
attribute [local go_sem] rowOf_drew rowOf_alloc_old rowOf_alloc_new canPut_drew canPut_alloc_old canPut_alloc_new setCells_alloc_new
attribute [local go_sem ↓] load_key store_key alloc_key

set_option maxHeartbeats 1000000 in
theorem double_any (s : List UInt8) (W : World) (hs : s.length ≤ 1000000) : Calls Try.prog 22 #[.string (sB s)] W (Gives (.agg (keyC (doubleK s)).toArray) W) := by
  go_enter Try.func22, Try.ntmps22
  go_wp2_with fail
  have hO0 := heap_alloc_new W (.cells (keyC zeroKey).toArray 23)
  have hB0 : Below W.heap.size W (W.alloc (.cells (keyC zeroKey).toArray 23)) := (Below.refl _ _).alloc (Nat.le_refl _) _
  generalize W.alloc (.cells (keyC zeroKey).toArray 23) = w0 at *
  refine (sum_any s _ hs).mono ?_
  rintro e w1 ⟨rfl, hb1⟩
  have hl0 : W.heap.size < w0.heap.size := (Array.getElem?_eq_some_iff.1 hO0).1
  have hB1 : Below W.heap.size W w1 := hB0.trans (hb1.mono (by omega))
  have hO1 := keepBlock hb1 hO0
  have hl1 : W.heap.size < w1.heap.size := (Array.getElem?_eq_some_iff.1 hO1).1
  have hdK : doubleK s = sumK (sumK s).val := rfl
  rw [hdK]
  replace hdK := Box.mk hdK
  generalize sumK s = k at *
  clear hO0 hB0 hb1
  go_wp2_with fail
  rw [keyC_bC k, run_string_of _ _ _ k.val 23 32 k.2.symm (heap_alloc_new w1 _)]
  have hB2 : Below W.heap.size W (w1.alloc (.cells (bC k.val).toArray 23)) := hB1.alloc (by omega) _
  have hO2 : (w1.alloc (.cells (bC k.val).toArray 23)).heap[W.heap.size]? = _ := (Below.heap_alloc _ _ _ hl1).trans hO1
  generalize w1.alloc (.cells (bC k.val).toArray 23) = w2 at *
  clear hB1 hO1 hl1
  go_wp2_with fail
  refine (sum_any k.val _ (by rw [k.2]; omega)).mono ?_
  rintro e w3 ⟨rfl, hb3⟩
  have hl2 : W.heap.size < w2.heap.size := (Array.getElem?_eq_some_iff.1 hO2).1
  have hB3 : Below W.heap.size W w3 := hB2.trans (hb3.mono (by omega))
  have hO3 := keepBlock hb3 hO2
  have hpu : canPut w3 W.heap.size 0 32 = true := canPut_block hO3 0 32 (by simp [keyC_length])
  generalize sumK k.val = kk at *
  clear hB2 hO2 hl2 hb3
  replace hO3 := Box.mk hO3
  replace hB3 := Box.mk hB3
  go_wp2_with fail
  have hrow := rowOf_of_rangeAt (World.rangeAt_setCells_same w3 W.heap.size 0 (keyC kk) (by rw [keyC_length]; exact canPut_there.1 hpu)) (keyC_length kk)
  refine bodyPost_ret (v := .agg (keyC kk).toArray) (res1 Try.results22 (res_key (b := W.heap.size) (o := 0) (by simp [go_sem]) hrow)) rfl ?_
  exact gives (by rw [hdK.out]) (below_setCells (Nat.le_refl _) _ _ _ _ hB3.out)

set_option maxHeartbeats 1000000 in
theorem pair_any (a b : Key) (W : World) : Calls Try.prog 18 #[.agg (keyC a).toArray, .agg (keyC b).toArray] W (Gives (.agg (keyC (pairK a b)).toArray) W) := by
  go_enter Try.func18, Try.ntmps18
  go_wp2_with fail
  have hA : (((W.alloc (.cells (keyC a).toArray 23)).alloc (.cells (keyC b).toArray 23)).alloc (.cells (keyC zeroKey).toArray 23)).heap[W.heap.size]? = some (.cells (bC a.val).toArray 23 (0, 0)) := by rw [← keyC_bC]; exact (Below.heap_alloc _ _ _ (by simp; omega)).trans ((Below.heap_alloc _ _ _ (by simp)).trans (heap_alloc_new W _))
  have hB : (((W.alloc (.cells (keyC a).toArray 23)).alloc (.cells (keyC b).toArray 23)).alloc (.cells (keyC zeroKey).toArray 23)).heap[W.heap.size + 1]? = some (.cells (bC b.val).toArray 23 (0, 0)) := by rw [← keyC_bC]; exact (Below.heap_alloc _ _ _ (by simp)).trans (heap_alloc_new' _ _ _ (by simp))
  have hO : (((W.alloc (.cells (keyC a).toArray 23)).alloc (.cells (keyC b).toArray 23)).alloc (.cells (keyC zeroKey).toArray 23)).heap[W.heap.size + 1 + 1]? = some (.cells (keyC zeroKey).toArray 23 (0, 0)) := heap_alloc_new' _ _ _ (by simp)
  have hbw : Below W.heap.size W (((W.alloc (.cells (keyC a).toArray 23)).alloc (.cells (keyC b).toArray 23)).alloc (.cells (keyC zeroKey).toArray 23)) := (((Below.refl _ _).alloc (Nat.le_refl _) _).alloc (by simp) _).alloc (by simp; omega) _
  generalize ((W.alloc (.cells (keyC a).toArray 23)).alloc (.cells (keyC b).toArray 23)).alloc (.cells (keyC zeroKey).toArray 23) = w8 at *
  obtain ⟨b0, h0⟩ : ∃ b, W.heap.size = b := ⟨_, rfl⟩
  rw [h0] at hA hB hO hbw
  rw [h0]
  have hl8 : b0 + 1 + 1 < w8.heap.size := (Array.getElem?_eq_some_iff.1 hO).1
  have hx : sB a.val ++ sB b.val = sB (a.val ++ b.val) := sB_append _ _
  have hP : pairK a b = doubleK (a.val ++ b.val) := rfl
  rw [hP]
  have hla : a.val.length = 32 := a.2
  have hlb : b.val.length = 32 := b.2
  have hall : ∀ w', SinceP w8 w' → ((convert 51 9 (.slice (some ⟨b0, 0, none⟩) 32 32)).run Try.prog w' = .ok (.string (sB a.val)) w' ∧ (convert 51 9 (.slice (some ⟨b0 + 1, 0, none⟩) 32 32)).run Try.prog w' = .ok (.string (sB b.val)) w' ∧ canPut w' (b0 + 1 + 1) 0 32 = true) := fun w' h =>
    ⟨run_string_of _ _ _ a.val 23 32 a.2.symm ((h.out.block _ (by omega)).trans hA), run_string_of _ _ _ b.val 23 32 b.2.symm ((h.out.block _ (by omega)).trans hB), canPut_block ((h.out.block _ hl8).trans hO) 0 32 (by simp [keyC_length])⟩
  replace h0 := Box.mk h0
  replace hP := Box.mk hP
  replace hA := Box.mk hA
  replace hB := Box.mk hB
  replace hO := Box.mk hO
  replace hbw := Box.mk hbw
  refine zreg_begin (z := 6) (S := SinceP w8) (by kernel_rfl) (SinceP.refl _).drew (fun hHeld => ?_)
  simp only [List.length_cons, List.length_nil, Nat.zero_add, Nat.reduceAdd, Array.replicate]
  refine zreg_take (i := 0) rfl (by kernel_rfl) (by kernel_rfl) (by kernel_rfl) (by kernel_rfl) hreg_panic (by rfl) hHeld ?_
  apply Exists.intro
  refine ⟨fun w' hw' => ?_, ?_⟩
  · have hf := hall w' hw'
    go_simp
    try go_bits
    exact yieldsV_mk rfl
  simp only [Act.put, List.setIfInBounds_toArray, List.set_cons_zero, List.set_cons_succ]
  refine zreg_take (i := 1) rfl (by kernel_rfl) (by kernel_rfl) (by kernel_rfl) (by kernel_rfl) hreg_panic (by rfl) hHeld ?_
  apply Exists.intro
  refine ⟨fun w' hw' => ?_, ?_⟩
  · have hf := hall w' hw'
    go_simp
    try go_bits
    exact yieldsV_mk rfl
  simp only [Act.put, List.setIfInBounds_toArray, List.set_cons_zero, List.set_cons_succ]
  refine zreg_take (i := 2) rfl (by kernel_rfl) (by kernel_rfl) (by kernel_rfl) (by kernel_rfl) hreg_panic (by rfl) hHeld ?_
  apply Exists.intro
  refine ⟨fun w' hw' => ?_, ?_⟩
  · have hf := hall w' hw'
    go_simp
    try go_bits
    exact yieldsV_mk rfl
  simp only [Act.put, List.setIfInBounds_toArray, List.set_cons_zero, List.set_cons_succ]
  refine zreg_take (i := 3) rfl (by kernel_rfl) (by kernel_rfl) (by kernel_rfl) (by kernel_rfl) hreg_panic (by rfl) hHeld ?_
  apply Exists.intro
  refine ⟨fun w' hw' => ?_, ?_⟩
  · have hf := hall w' hw'
    go_simp
    try go_bits
    exact yieldsV_mk rfl
  simp only [Act.put, List.setIfInBounds_toArray, List.set_cons_zero, List.set_cons_succ]
  refine zreg_take (i := 4) rfl (by kernel_rfl) (by kernel_rfl) (by kernel_rfl) (by kernel_rfl) hreg_panic (by rfl) hHeld ?_
  apply Exists.intro
  refine ⟨fun w' hw' => ?_, ?_⟩
  · have hf := hall w' hw'
    go_simp
    try go_bits
    exact yieldsV_mk rfl
  simp only [Act.put, List.setIfInBounds_toArray, List.set_cons_zero, List.set_cons_succ]
  refine wpAnyZ_ready (rs := [5]) (by kernel_rfl) (by simp) ?_
  refine zreg_event (o := _) rfl (by rfl) (by decide) (fun K hK => ?_) ?_
  · go_simp
    first
      | (go_at_call 22; refine (double_any (a.val ++ b.val) _ (by rw [List.length_append, a.2, b.2]; omega)).mono ?_; rintro e wn ⟨rfl, hb⟩)
      | skip
    refine hK.out _ _ ?_ (fun hHeld' => ?_)
    · first
        | exact hHeld.next hb
        | exact hHeld
        | exact hHeld.alloc _
        | exact hHeld.setCell (by simp <;> omega) _
        | exact (hHeld.alloc _).alloc _
    replace hHeld := hHeld'
    clear hHeld' hK K
    simp only [Act.put, List.setIfInBounds_toArray, List.set_cons_zero, List.set_cons_succ]
    refine wpAnyZ_ready (rs := [6]) (by kernel_rfl) (by simp) ?_
    refine zreg_last (o := _) rfl (by rfl) (fun K hK => ?_) ?_
    · go_simp
      first
        | (have hF := hall _ hHeld; have hBn := hHeld.out; go_simp)
        | skip
      refine hK.out _ _ ?_
      clear hK K hHeld
      simp only [Act.put, List.setIfInBounds_toArray, List.set_cons_zero, List.set_cons_succ]
      refine wpAnyZ_done (by kernel_rfl) ?_ _
      refine NoPanic.normal ?_
      have hrow := rowOf_of_rangeAt (World.rangeAt_setCells_same wn (b0 + 1 + 1) 0 (keyC (doubleK (a.val ++ b.val))) (by rw [keyC_length]; exact canPut_there.1 hF.2.2)) (keyC_length _)
      have hfin : Below W.heap.size W (wn.setCells (b0 + 1 + 1) 0 (keyC (doubleK (a.val ++ b.val)))) := by rw [h0.out]; exact below_setCells (by omega) _ _ _ _ (hbw.out.trans (hBn.mono (by omega)))
      generalize wn.setCells (b0 + 1 + 1) 0 (keyC (doubleK (a.val ++ b.val))) = wz at *
      replace hfin := Box.mk hfin
      clear hF hBn
      go_wp2
      refine bodyPost_ret (v := .agg (keyC (doubleK (a.val ++ b.val))).toArray) (res1 Try.results18 (res_key (b := b0 + 1 + 1) (o := 0) (by simp [go_sem]) hrow)) rfl ?_
      exact gives rfl hfin.out
    exact AllReadyZ.nil
  exact AllReadyZ.nil

end Go.Proofs.Ytabikhmaiennpaa
