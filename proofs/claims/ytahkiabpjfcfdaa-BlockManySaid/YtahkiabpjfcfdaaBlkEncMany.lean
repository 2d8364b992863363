/- Package block: Encode of too many transactions. -/
import Derived.Test.YtahkiabpjfcfdaaBlkEnc
namespace Go.Proofs.Ytahkiabpjfcfdaa
open Go.RowKit Go.Shelf
set_option linter.unusedVariables false
set_option linter.unusedSimpArgs false
set_option maxRecDepth 100000
attribute [local go_sem] Oper.semAt_some
attribute [local go_sem ↓] semAt_run
attribute [local irreducible] Int.lt Int.le
attribute [local go_sem ↓] load_key store_key alloc_key build0_key eq_key load_point store_point alloc_point load_out store_out alloc_out load_tx store_tx alloc_tx load_blk store_blk alloc_blk build0_blk append_key
attribute [local go_sem] rowOf_drew rowOf_alloc_old rowOf_alloc_new canPut_drew canPut_alloc_old canPut_alloc_new setCells_alloc_new
attribute [local go_sem] blkC_g64 blkC_g65

set_option maxHeartbeats 2000000 in
theorem encMany_in (n : Nat) (hn : 3 ≤ n) (v : BlkV) (w : World) (hm : 30 < v.txs.len) :
    CallsIn Fence.wide n Try.prog 27 #[.agg (blkC v).toArray] w fun e W' => e = .returned (valE ([], 51)) ∧ Below w.heap.size w W' := by
  have h1 : 1 ≤ n := by omega
  obtain ⟨s, hs⟩ : ∃ s, w.heap.size = s := ⟨_, rfl⟩
  refine callsIn_of_wp_marks Try.func27 rfl trivial ?_ rfl
  simp only [Try.ntmps27, List.size_toArray, List.length_cons, List.length_nil, Nat.reduceAdd, Nat.reduceSub, Array.replicate_succ, Array.replicate_zero, List.push_toArray, List.append_toArray, List.nil_append, List.cons_append]
  have q0 : ((((w.alloc (.cells (blkC v).toArray 50)).alloc (.cells #[.string ⟨#[]⟩] 9)).alloc (.cells #[.int .i64 0] 52)).heap[s]?) = some (.cells (blkC v).toArray 50 (0, 0)) := by
    have := heap_alloc_new w (.cells (blkC v).toArray 50)
    rw [hs] at this
    exact keepBlock ((Below.refl _ _).alloc (Nat.le_refl _) _) (keepBlock ((Below.refl _ _).alloc (Nat.le_refl _) _) this)
  obtain ⟨k0, k1, k2, k3, k4, k5⟩ := blk_all q0
  clear k1 k2 k3 k4
  have hz' : ((v.txs.len : Int) == 0) = false := by simp; omega
  have hm' : (30 : Int) < (v.txs.len : Int) := by omega
  gi_wp2
  refine ⟨valE ([], 51), ?_, rfl, (((((Below.refl _ w).alloc (Nat.le_refl _) _).alloc (by simp) _).alloc (by simp; omega) _))⟩
  simp [results, Try.f27, go_sem, valE, hs]; rfl
theorem bencode_many (v : BlkV) (w : World) (h : 30 < v.txs.len) : Calls Try.prog 27 #[.agg (blkC v).toArray] w (Gives (valE ([], 51)) w) :=
  (callsIn_wide.1 (encMany_in 3 (Nat.le_refl _) v w h)).mono fun e w' h => h
end Go.Proofs.Ytahkiabpjfcfdaa
