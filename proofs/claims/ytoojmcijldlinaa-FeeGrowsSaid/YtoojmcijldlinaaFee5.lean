/- Layer 13: the contracts under names, and what the names come to. -/
import Derived.Test.YtoojmcijldlinaaFee4
namespace Go.Proofs.Ytoojmcijldlinaa
open Go.RowKit

def convN (t : TxV) : Int := dueN t * 5000
def unpaidN (t : TxV) (fee : Int) : Int := max (dueN t - heldN fee / 5000) 0
def paysB (t : TxV) (fee : Int) : Bool := decide (dueN t * 5000 ≤ heldN fee)

theorem conv_c (t : TxV) (w : World) (h : Small t) : Calls Try.prog 19 #[.agg (txC t).toArray] w (Gives (.int .i64 (convN t)) w) := conv_any t w h
theorem unpaid_c (t : TxV) (fee : Int) (w : World) (h : Small t) : Calls Try.prog 27 #[.agg (txC t).toArray, .int .i64 fee] w (Gives (.int .i64 (unpaidN t fee)) w) := unpaid_any t fee w h
theorem pays_c (t : TxV) (fee : Int) (w : World) (h : Small t) : Calls Try.prog 32 #[.agg (txC t).toArray, .int .i64 fee] w (Gives (.bool (paysB t fee)) w) := pays_any t fee w h
theorem act_c (t : TxV) (w : World) (h : Small t) : Calls Try.prog 18 #[.agg (txC t).toArray] w (Gives (.int .i64 (actN t)) w) := actions_any t w h.1 h.2.1 h.2.2.1 h.2.2.2
theorem rconv_c (t : TxV) (w : World) (h : Small t) : Calls Try.prog 29 #[.agg (txC t).toArray] w (Gives (.int .i64 (convN t)) w) := rconv_any t w h
theorem runpaid_c (t : TxV) (fee : Int) (w : World) (h : Small t) : Calls Try.prog 30 #[.agg (txC t).toArray, .int .i64 fee] w (Gives (.int .i64 (unpaidN t fee)) w) := runpaid_any t fee w h
theorem rpays_c (t : TxV) (fee : Int) (w : World) (h : Small t) : Calls Try.prog 33 #[.agg (txC t).toArray, .int .i64 fee] w (Gives (.bool (paysB t fee)) w) := rpays_any t fee w h

theorem act_due {t : TxV} (h : Small t) : 0 ≤ actN t ∧ actN t ≤ 2000000 ∧ ((actN t ≤ 2 ∧ dueN t = 2) ∨ (2 < actN t ∧ dueN t = actN t)) := by
  have := act_bounds h; unfold dueN; omega
theorem unpaid_eq {t : TxV} {fee d v : Int} (hd : dueN t = d) (h : max (d - (max (min fee 2100000000000000) 0) / 5000) 0 = v) : unpaidN t fee = v := by unfold unpaidN heldN; rw [hd]; exact h
theorem pays_true {t : TxV} {fee d : Int} (hd : dueN t = d) (h : d * 5000 ≤ max (min fee 2100000000000000) 0) : paysB t fee = true := by unfold paysB heldN; rw [hd]; simpa using h
theorem pays_false {t : TxV} {fee d : Int} (hd : dueN t = d) (h : max (min fee 2100000000000000) 0 < d * 5000) : paysB t fee = false := by
  unfold paysB heldN; rw [hd, decide_eq_false_iff_not]; omega
theorem weight_eq {t : TxV} {fee d v : Int} (hd : dueN t = d) (h : max ((max (min fee (4 * (d * 5000))) 0) * 65536 / (d * 5000)) 1 = v) : weightN t fee = v := by unfold weightN; rw [hd]; exact h

end Go.Proofs.Ytoojmcijldlinaa
