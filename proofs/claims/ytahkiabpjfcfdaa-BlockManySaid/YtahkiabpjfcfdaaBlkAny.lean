/- Layer 6: what Decode comes to, in one form. (printed by mkblklaws.py) -/
import Derived.Test.YtahkiabpjfcfdaaBlkPlain
import Derived.Test.YtahkiabpjfcfdaaBlkDec3
import Derived.Test.YtahkiabpjfcfdaaRefBlkDec
import Derived.Test.YtahkiabpjfcfdaaRefBlkSame
namespace Go.Proofs.Ytahkiabpjfcfdaa
open Go.RowKit
set_option linter.unusedVariables false
set_option linter.unusedSimpArgs false
set_option maxRecDepth 100000
attribute [local irreducible] Int.lt Int.le
attribute [local go_sem] sB_append
attribute [local go_sem ↓] load_key store_key alloc_key build0_key eq_key load_tx store_tx alloc_tx build0_tx load_blk store_blk alloc_blk build0_blk
attribute [local go_sem] rowOf_drew rowOf_alloc_old rowOf_alloc_new canPut_drew canPut_alloc_old canPut_alloc_new setCells_alloc_new

def zeroBD : BlkD := ⟨zeroKey, zeroKey, 0, []⟩
def blkDo : Except Int BlkD → BlkD
  | .ok d => d
  | .error _ => zeroBD
def blkXo : Except Int BlkD → Int
  | .ok _ => 0
  | .error x => x
theorem BlkTo.any {W w' : World} {o : Except Int BlkD} {e : Ending} (h : BlkTo W o e w') : ∃ v qs, e = .returned (.tuple #[.agg (blkC v).toArray, .int .i64 (blkXo o)]) ∧ BlkL w' v qs (blkDo o) ∧ Below W.heap.size W w' := by
  cases o with
  | ok d => exact h
  | error x => exact ⟨zeroBlk, [], h.1, zero_BlkL w', h.2.2⟩
theorem zeroBD_ok : okB zeroBD := ⟨by decide, fun t ht => (List.not_mem_nil ht).elim⟩
theorem blkDo_ok (s : List UInt8) : okB (blkDo (blkRd s)) := by
  cases h : blkRd s with
  | ok d => exact (blkRd_one h).2
  | error x => exact zeroBD_ok
theorem blkV_do {s : List UInt8} {o : Except Int BlkD} (h : blkRd s = o) (hx : blkXo o = 0) (hne : ∀ x, o = .error x → ¬ x = 0) : blkV (blkDo o) = (s, 0) := by
  cases o with
  | ok d => exact (blkRd_one h).1
  | error x => exact absurd hx (hne x rfl)
theorem BlkTo.errne {W w' : World} {o : Except Int BlkD} {e : Ending} (h : BlkTo W o e w') : ∀ x, o = .error x → ¬ x = 0 := by
  intro x hx
  subst hx
  exact h.2.1
theorem blk_row {w : World} {b : Nat} {v : BlkV} (h : w.heap[b]? = some (.cells (blkC v).toArray 50 (0, 0))) : rowOf w b 0 66 = some (blkC v) := (blk_all h).2.1

end Go.Proofs.Ytahkiabpjfcfdaa
