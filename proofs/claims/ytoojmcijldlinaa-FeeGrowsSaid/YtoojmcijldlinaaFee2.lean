/- The contracts of package fee, more; the reference's. -/
import Derived.Test.YtoojmcijldlinaaFee
import Derived.Deep.RegionWith
import Derived.Deep.DrawnRows
namespace Go.Proofs.Ytoojmcijldlinaa
open Go.RowKit
set_option linter.unusedVariables false
set_option linter.unusedSimpArgs false
attribute [local go_sem ↓] load_tx Go.wp_at_zero Go.wp_at_succ
attribute [local go_sem] rowOf_drew rowOf_alloc_old rowOf_alloc_new

set_option maxHeartbeats 1000000 in
theorem pays_any (t : TxV) (fee : Int) (w : World) (h : Small t) :
    Calls Try.prog 32 #[.agg (txC t).toArray, .int .i64 fee] w (Gives (.bool (decide (dueN t * 5000 ≤ heldN fee))) w) := by
  have ha := due_bounds h
  have hh := held_bounds fee
  go_enter Try.func32, Try.ntmps32
  go_wp2_with fail
  go_region_with (first
    | (go_at_call 38; refine (paid_any _ _).mono ?_; rintro e w2 ⟨rfl, rfl⟩)
    | (go_at_call 40; refine (paid1_any _ _ fee _ ?_).mono ?_; (· simp [go_sem]); rintro e w2 ⟨rfl, rfl⟩)
    | (go_at_call 19; refine (conv_any t _ h).mono ?_; rintro e w2 ⟨rfl, hb2⟩))
  all_goals
    go_wp2
    go_ret
    exact gives_bool rfl (Below.of hb2 (by simp <;> omega) ((((Below.refl _ _).alloc (by simp) _).alloc (by simp <;> omega) _).drew))

def weightN (t : TxV) (fee : Int) : Int := max ((max (min fee (4 * (dueN t * 5000))) 0) * 65536 / (dueN t * 5000)) 1

set_option maxHeartbeats 1000000 in
theorem weight_any (t : TxV) (fee : Int) (w : World) (h : Small t) :
    Calls Try.prog 20 #[.agg (txC t).toArray, .int .i64 fee] w (Gives (.int .i64 (weightN t fee)) w) := by
  obtain ⟨d, hd⟩ : ∃ d, d = dueN t := ⟨_, rfl⟩
  have ha := due_bounds h
  rw [← hd] at ha
  have Hd := Lib.hid hd
  clear hd
  obtain ⟨n, hn⟩ : ∃ n, n = max (min fee (4 * (d * 5000))) 0 := ⟨_, rfl⟩
  have hn0 : 0 ≤ n ∧ n ≤ 4 * (d * 5000) := by omega
  have Hn := Lib.hid hn
  clear hn
  go_enter Try.func20, Try.ntmps20
  go_wp2_with fail
  refine (conv_any t _ h).mono ?_
  rintro e w1 ⟨rfl, hb1⟩
  rw [← Hd.out]
  obtain ⟨hc, hf, hr, hh⟩ := bcell hb1
  go_wp2_with fail
  refine (paid_any _ _).mono ?_
  rintro e w2 ⟨rfl, rfl⟩
  go_wp2_with fail
  refine (paid1_any _ _ fee _ (by simp [go_sem])).mono ?_
  rintro e w2 ⟨rfl, rfl⟩
  rw [← Hn.out]
  go_wp2_with fail
  all_goals
    go_ret
    refine gives_int ?_ ((((Below.refl _ _).alloc (by simp) _).trans (hb1.mono (by simp))).alloc (by have := hb1.size; simp at this; omega) _)
    rw [weightN, ← Hd.out, ← Hn.out]; omega

def heavyB (t : TxV) : Bool := decide (60 < t.ins.len) || (decide (60 < t.outs.len) || (decide (60 < t.nulls.len) || decide (60 < t.notes.len)))

set_option maxHeartbeats 1000000 in
theorem heavy_any (t : TxV) (w : World) :
    Calls Try.prog 16 #[.agg (txC t).toArray] w (Gives (.bool (heavyB t)) w) := by
  by_cases h1 : 60 < t.ins.len
  · go_enter Try.func16, Try.ntmps16
    go_wp2
    go_ret
    exact gives_bool (by simp [heavyB, h1]) ((Below.refl _ _).alloc (by simp) _)
  · by_cases h2 : 60 < t.outs.len
    · go_enter Try.func16, Try.ntmps16
      go_wp2
      go_ret
      exact gives_bool (by simp [heavyB, h2]) ((Below.refl _ _).alloc (by simp) _)
    · by_cases h3 : 60 < t.nulls.len
      · go_enter Try.func16, Try.ntmps16
        go_wp2
        go_ret
        exact gives_bool (by simp [heavyB, h3]) ((Below.refl _ _).alloc (by simp) _)
      · by_cases h4 : 60 < t.notes.len
        all_goals
          go_enter Try.func16, Try.ntmps16
          go_wp2
          go_ret
          exact gives_bool (by simp [heavyB, h1, h2, h3, h4] <;> omega) ((Below.refl _ _).alloc (by simp) _)

theorem heavy_small {t : TxV} (h : heavyB t = false) : Small t := by
  simp [heavyB] at h
  unfold Small; omega

end Go.Proofs.Ytoojmcijldlinaa
