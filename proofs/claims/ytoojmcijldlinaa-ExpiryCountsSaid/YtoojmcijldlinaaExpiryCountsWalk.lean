/- ExpiryCounts, the walk: for every two heights of sixteen bits the law returns true. -/
import Derived.Test.YtoojmcijldlinaaExpiry
namespace Go.Proofs.Ytoojmcijldlinaa
open Go.RowKit

def CountsEnd (w : World) (e : Ending) (w' : World) : Prop := e = .returned (.bool true) ∧ w = w'

theorem bool_eq_true {b : Bool} {w w' : World} (h : b = true) (hw : w = w') : CountsEnd w (.returned (.bool b)) w' := by subst h; exact ⟨rfl, hw⟩

set_option maxHeartbeats 800000 in
theorem expiryCounts_walk (x y : Int) (w : World) (x0 : 0 ≤ x) (x1 : x ≤ 65535) (y0 : 0 ≤ y) (y1 : y ≤ 65535) :
    Calls Try.prog 3 #[.int .u16 x, .int .u16 y] w (CountsEnd w) := by
  have hN : ∃ n : Int, leftN (x + 1) y = n ∧ 0 ≤ n ∧ n ≤ 65537 ∧ ((x + 1 < y ∧ n = 0) ∨ (y ≤ x + 1 ∧ n = x + 1 - y + 1)) := by
    refine ⟨_, rfl, ?_⟩
    unfold leftN
    rw [if_neg (by omega)]
    by_cases h : x + 1 < y
    · rw [if_pos h]; omega
    · rw [if_neg h, if_neg (by omega)]; omega
  obtain ⟨n, hn, n0, n1, hcase⟩ := hN
  have Hn := Lib.hid hn
  have Hc := Lib.hid hcase
  clear hn hcase
  have hz : (x + 1 == 0) = false := by rw [beq_eq_false_iff_ne]; omega
  go_enter Try.func3, Try.ntmps3
  go_wp2_with fail
  refine (left_any _ _ _ (by omega) (by omega) (by omega) (by omega)).mono ?_
  rintro e w' ⟨rfl, rfl⟩
  rw [Hn.out]
  go_wp2_with fail
  refine (shown12 _).mono ?_
  rintro e w' ⟨rfl, rfl⟩
  go_wp2_with fail
  go_loop [7, 8] (fun k h => ∃ i : Int, 0 ≤ i ∧ i ≤ n ∧ k = .int .u32 i ∧ h = .int .u32 (y + i)) (fun k _ => (n - intOf k).toNat)
  case atStart => exact ⟨0, by omega, by omega, rfl, by simp⟩
  case round =>
    obtain ⟨i, i0, i1, rfl, rfl⟩ := hrel
    by_cases hlt : i < n
    · have hB : belowB (x + 1) (y + i) = false := by
        rcases Hc.out with h | h
        · omega
        · simp [belowB]; omega
      go_wp2_with (go_at_call 15; refine (expired_any _ _ _ (by omega) (by omega) (by omega) (by omega)).mono ?_; rintro e w' ⟨rfl, rfl⟩)
      go_round
      case rel => exact ⟨i + 1, by omega, by omega, rfl, by rw [show y + i + 1 = y + (i + 1) from by omega]⟩
      case measure => simp [intOf]; omega
    · obtain rfl : i = n := by omega
      have hB : belowB (x + 1) (y + i) = true := by
        rcases Hc.out with h | h
        · simp [belowB]; omega
        · simp [belowB]; omega
      go_wp2_with (go_at_call 15; refine (expired_any _ _ _ (by omega) (by omega) (by omega) (by omega)).mono ?_; rintro e w' ⟨rfl, rfl⟩)
      go_ret
      exact bool_eq_true (by simp) rfl

end Go.Proofs.Ytoojmcijldlinaa
