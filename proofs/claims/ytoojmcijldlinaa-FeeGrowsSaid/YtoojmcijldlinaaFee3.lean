/- The reference's contracts of layer 13. -/
import Derived.Test.YtoojmcijldlinaaFee2
import Derived.Test.YtoojmcijldlinaaSince
namespace Go.Proofs.Ytoojmcijldlinaa
open Go.RowKit
set_option linter.unusedVariables false
set_option linter.unusedSimpArgs false
attribute [local go_sem ↓] load_tx store_tx alloc_tx build0_tx
attribute [local go_sem] rowOf_drew rowOf_alloc_old rowOf_alloc_new

set_option maxHeartbeats 400000 in
theorem rheld_any (fee : Int) (w : World) :
    Calls Try.prog 39 #[.int .i64 fee] w fun e w' => e = .returned (.int .i64 (heldN fee)) ∧ w = w' := by
  go_enter Try.func39, Try.ntmps39
  go_wp2
  all_goals
    go_ret
    exact ret_int (by unfold heldN; omega) rfl

set_option maxHeartbeats 400000 in
theorem ractions_any (t : TxV) (w : World) (h : Small t) :
    Calls Try.prog 28 #[.agg (txC t).toArray] w (Gives (.int .i64 (actN t)) w) := by
  obtain ⟨h1, h2, h3, h4⟩ := h
  go_enter Try.func28, Try.ntmps28
  go_wp2
  all_goals
    go_ret
    refine gives_int ?_ ((Below.refl _ _).alloc (by simp) _)
    unfold actN; omega

set_option maxHeartbeats 400000 in
theorem rconv_any (t : TxV) (w : World) (h : Small t) :
    Calls Try.prog 29 #[.agg (txC t).toArray] w (Gives (.int .i64 (dueN t * 5000)) w) := by
  have ha := act_bounds h
  go_enter Try.func29, Try.ntmps29
  go_wp2_with fail
  refine (ractions_any t _ h).mono ?_
  rintro e w1 ⟨rfl, hb1⟩
  go_wp2_with fail
  all_goals
    go_ret
    exact gives_int (by unfold dueN; omega) (((Below.refl _ _).alloc (by simp) _).trans (hb1.mono (by simp)))

set_option maxHeartbeats 400000 in
theorem rpays_any (t : TxV) (fee : Int) (w : World) (h : Small t) :
    Calls Try.prog 33 #[.agg (txC t).toArray, .int .i64 fee] w (Gives (.bool (decide (dueN t * 5000 ≤ heldN fee))) w) := by
  have ha := act_bounds h
  go_enter Try.func33, Try.ntmps33
  go_wp2_with fail
  (refine region_since (by kernel_rfl) (by kernel_rfl) ?_)
  repeat (first
    | (refine wpQuiet_goff rfl rfl rfl rfl ?_; simp only [Act.put, List.setIfInBounds_toArray, List.set_cons_succ, List.set_cons_zero])
    | (first
         | refine wpQuiet_free rfl ?_
         | refine wpQuiet_gon rfl rfl rfl rfl ?_
       apply Exists.intro
       refine ⟨fun w' hw' => ?_, ?_⟩
       · (obtain ⟨hc', hr', hs'⟩ := since_facts hw'
          unfold Oper.quietAt
          go_simp
          try go_bits
          first
            | exact quietUpon_value rfl
            | (apply quietUpon_enter
               first
               | (go_at_call 39; exact calls_same hw' (rheld_any _ _))
               | (go_at_call 29; exact calls_since hw' (rconv_any t _ h))))
       simp only [Act.put, List.setIfInBounds_toArray, List.set_cons_succ, List.set_cons_zero]))
  first
    | refine wpQuiet_nil ?_
    | fail "QUIET stopped"
  intro wq hwq'
  go_wp2
  go_ret
  exact gives_bool rfl (Below.of (since_below hwq') (by simp <;> omega) ((Below.refl _ _).alloc (by simp) _))

end Go.Proofs.Ytoojmcijldlinaa
