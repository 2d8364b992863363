/- Package tx: Coinbase. -/
import Derived.Test.YtahkiabpjfcfdaaEnc3
namespace Go.Proofs.Ytahkiabpjfcfdaa
open Go.RowKit
set_option linter.unusedVariables false
set_option linter.unusedSimpArgs false
set_option maxRecDepth 100000
attribute [local irreducible] Int.lt Int.le
attribute [local go_sem ↓] load_key store_key alloc_key build0_key eq_key load_point store_point alloc_point build0_point load_out store_out alloc_out load_tx store_tx alloc_tx build0_tx
attribute [local go_sem] rowOf_drew rowOf_alloc_old rowOf_alloc_new canPut_drew canPut_alloc_old canPut_alloc_new setCells_alloc_new

/-- Is it a coinbase? -/
def cbB : List PointV → Bool
  | [p] => p.tx == zeroKey
  | _ => false
set_option maxHeartbeats 1000000 in
theorem coinbase_any (t : TxV) (ins : List PointV) (W : World) (h : SL pointC 33 W t.ins.a t.ins.len t.ins.cap ins) : Calls Try.prog 51 #[.agg (txC t).toArray] W (Gives (.bool (cbB ins)) W) := by
  have hB0 : Below W.heap.size W (W.alloc (.cells (txC t).toArray 41)) := (Below.refl _ _).alloc (Nat.le_refl _) _
  have hl := h.1
  have hcap := h.2.1
  match ins, hl with
  | [], hl =>
    replace hl : t.ins.len = 0 := hl
    replace h := Box.mk h
    go_enter Try.func51, Try.ntmps51
    go_wp2
    go_ret
    exact gives_bool rfl hB0
  | [p], hl =>
    replace hl : t.ins.len = 1 := hl
    obtain ⟨b, o, ha, hb, hr⟩ := SL.elem pointC_length h (i := 0) (x := p) rfl
    rw [Nat.zero_mul, Nat.add_zero] at hr
    obtain ⟨c1, c2⟩ := pt_row hr
    replace h := Box.mk h
    replace hr := Box.mk hr
    replace c2 := Box.mk c2
    go_enter Try.func51, Try.ntmps51
    go_wp2
    go_ret
    exact gives_bool rfl hB0
  | p :: q :: r, hl =>
    have hl' : ¬ ((t.ins.len : Int) = 1) := by rw [hl]; simp; omega
    replace h := Box.mk h
    replace hl := Box.mk hl
    go_enter Try.func51, Try.ntmps51
    go_wp2
    go_ret
    exact gives_bool rfl hB0

theorem tx_row38 {w : World} {b : Nat} {t : TxV} (hw : w.heap[b]? = some (.cells (txC t).toArray 41 (0, 0))) : rowOf w b 0 38 = some (txC t) := by
  rw [rowOf_block hw 0 38 (by simp [txC_length])]
  congr 1; simp
  exact List.take_of_length_le (by rw [txC_length]; exact Nat.le_refl _)
theorem pt_row33 {w : World} {b : Nat} {p : PointV} (hw : w.heap[b]? = some (.cells (pointC p).toArray 59 (0, 0))) : rowOf w b 0 33 = some (pointC p) := by
  rw [rowOf_block hw 0 33 (by simp [pointC_length])]
  congr 1; simp
  exact List.take_of_length_le (by rw [pointC_length]; exact Nat.le_refl _)
end Go.Proofs.Ytahkiabpjfcfdaa
