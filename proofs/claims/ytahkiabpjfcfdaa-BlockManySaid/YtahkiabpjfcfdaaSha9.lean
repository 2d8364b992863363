/- Package sha: Double, Pair. -/
import Derived.Test.YtahkiabpjfcfdaaSha8
namespace Go.Proofs.Ytahkiabpjfcfdaa
open Go.RowKit Go.Shelf
set_option linter.unusedVariables false
set_option linter.unusedSimpArgs false
set_option maxRecDepth 100000

def doubleK (s : List UInt8) : Key := sumK (sumK s).val
def pairK (a b : Key) : Key := doubleK (a.val ++ b.val)
attribute [local irreducible] Int.lt Int.le
attribute [local go_sem] rowOf_drew rowOf_alloc_old rowOf_alloc_new canPut_drew canPut_alloc_old canPut_alloc_new setCells_alloc_new
attribute [local go_sem ↓] load_key store_key alloc_key

set_option maxHeartbeats 1000000 in
theorem double_any (s : List UInt8) (W : World) (hs : s.length ≤ 1000000) : Calls Try.prog 69 #[.string (sB s)] W (Gives (.agg (keyC (doubleK s)).toArray) W) := by
  go_enter Try.func69, Try.ntmps69
  go_wp2_with fail
  have hO0 := heap_alloc_new W (.cells (keyC zeroKey).toArray 38)
  have hB0 : Below W.heap.size W (W.alloc (.cells (keyC zeroKey).toArray 38)) := (Below.refl _ _).alloc (Nat.le_refl _) _
  generalize W.alloc (.cells (keyC zeroKey).toArray 38) = w0 at *
  refine (sum_any s _ hs).mono ?_
  rintro e w1 ⟨rfl, hb1⟩
  have hl0 : W.heap.size < w0.heap.size := (Array.getElem?_eq_some_iff.1 hO0).1
  have hB1 : Below W.heap.size W w1 := hB0.trans (hb1.mono (by omega))
  have hO1 := keepBlock hb1 hO0
  have hl1 : W.heap.size < w1.heap.size := (Array.getElem?_eq_some_iff.1 hO1).1
  have hdK : doubleK s = sumK (sumK s).val := rfl
  rw [hdK]
  replace hdK := Box.mk hdK
  generalize sumK s = k at *
  clear hO0 hB0 hb1
  go_wp2_with fail
  rw [keyC_bC k, run_string_of _ _ _ k.val 38 32 k.2.symm (heap_alloc_new w1 _)]
  have hB2 : Below W.heap.size W (w1.alloc (.cells (bC k.val).toArray 38)) := hB1.alloc (by omega) _
  have hO2 : (w1.alloc (.cells (bC k.val).toArray 38)).heap[W.heap.size]? = _ := (Below.heap_alloc _ _ _ hl1).trans hO1
  generalize w1.alloc (.cells (bC k.val).toArray 38) = w2 at *
  clear hB1 hO1 hl1
  go_wp2_with fail
  refine (sum_any k.val _ (by rw [k.2]; omega)).mono ?_
  rintro e w3 ⟨rfl, hb3⟩
  have hl2 : W.heap.size < w2.heap.size := (Array.getElem?_eq_some_iff.1 hO2).1
  have hB3 : Below W.heap.size W w3 := hB2.trans (hb3.mono (by omega))
  have hO3 := keepBlock hb3 hO2
  have hpu : canPut w3 W.heap.size 0 32 = true := canPut_block hO3 0 32 (by simp [keyC_length])
  generalize sumK k.val = kk at *
  clear hB2 hO2 hl2 hb3
  replace hO3 := Box.mk hO3
  replace hB3 := Box.mk hB3
  go_wp2_with fail
  have hrow := rowOf_of_rangeAt (World.rangeAt_setCells_same w3 W.heap.size 0 (keyC kk) (by rw [keyC_length]; exact canPut_there.1 hpu)) (keyC_length kk)
  refine bodyPost_ret (v := .agg (keyC kk).toArray) (res1 Try.results69 (res_key (b := W.heap.size) (o := 0) (by simp [go_sem]) hrow)) rfl ?_
  exact gives (by rw [hdK.out]) (below_setCells (Nat.le_refl _) _ _ _ _ hB3.out)

end Go.Proofs.Ytahkiabpjfcfdaa
