/- The contracts of package expiry, and of the law's own 'shown'. -/
import Derived.Test.YtoojmcijldlinaaRows
import Derived.WalkKit
import Derived.WalkSpells
import Derived.WalkLawsBesides
import Derived.Lib.Hide
namespace Go.Proofs.Ytoojmcijldlinaa
open Go.RowKit

def belowB (h n : Int) : Bool := !(h == 0) && decide (h < n)

set_option maxHeartbeats 400000 in
theorem any_any (h : Int) (w : World) :
    Calls Try.prog 34 #[.int .u32 h] w fun e w' => e = .returned (.bool (h == 0)) ∧ w = w' := by
  go_enter Try.func34, Try.ntmps34
  go_wp2
  go_ret
  exact ⟨rfl, rfl⟩

set_option maxHeartbeats 400000 in
theorem below_any (h n : Int) (w : World) (h0 : 0 ≤ h) (h1 : h ≤ 4294967295) :
    Calls Try.prog 35 #[.int .u32 h, .int .u64 n] w fun e w' => e = .returned (.bool (belowB h n)) ∧ w = w' := by
  by_cases hz : h = 0
  · subst hz
    go_enter Try.func35, Try.ntmps35
    go_wp2
    go_ret
    exact ⟨rfl, rfl⟩
  · have hb : (h == 0) = false := by simpa using hz
    go_enter Try.func35, Try.ntmps35
    go_wp2
    go_ret
    exact ⟨by simp [belowB, hb], rfl⟩

set_option maxHeartbeats 400000 in
theorem expired_any (h n : Int) (w : World) (h0 : 0 ≤ h) (h1 : h ≤ 4294967295) (n0 : 0 ≤ n) (n1 : n ≤ 4294967295) :
    Calls Try.prog 15 #[.int .u32 h, .int .u32 n] w fun e w' => e = .returned (.bool (belowB h n)) ∧ w = w' := by
  go_enter Try.func15, Try.ntmps15
  go_wp2_with (go_at_call 35; refine (below_any _ _ _ h0 h1).mono ?_; rintro e w' ⟨rfl, rfl⟩)
  go_ret
  exact ⟨rfl, rfl⟩

set_option maxHeartbeats 400000 in
theorem soon_any (h n : Int) (w : World) (h0 : 0 ≤ h) (h1 : h ≤ 4294967295) (n0 : 0 ≤ n) (n1 : n ≤ 4294967295) :
    Calls Try.prog 25 #[.int .u32 h, .int .u32 n] w fun e w' => e = .returned (.bool (belowB h (n + 3))) ∧ w = w' := by
  go_enter Try.func25, Try.ntmps25
  go_wp2_with (go_at_call 35; refine (below_any _ _ _ h0 h1).mono ?_; rintro e w' ⟨rfl, rfl⟩)
  go_ret
  exact ⟨rfl, rfl⟩

def leftN (h n : Int) : Int := if h = 0 then 0 else if h < n then 0 else if h - n = 4294967295 then 4294967295 else h - n + 1

theorem ret_left {a b : Int} {c d : Bool} (h : a = b) (h' : c = d) : Ending.returned (.tuple #[.int .u32 a, .bool c]) = .returned (.tuple #[.int .u32 b, .bool d]) := by rw [h, h']

set_option maxHeartbeats 400000 in
theorem left_any (h n : Int) (w : World) (h0 : 0 ≤ h) (h1 : h ≤ 4294967295) (n0 : 0 ≤ n) (n1 : n ≤ 4294967295) :
    Calls Try.prog 13 #[.int .u32 h, .int .u32 n] w fun e w' => e = .returned (.tuple #[.int .u32 (leftN h n), .bool (!(h == 0))]) ∧ w = w' := by
  by_cases hz : h = 0
  · subst hz
    go_enter Try.func13, Try.ntmps13
    go_wp2
    go_ret2
    exact ⟨ret_left rfl rfl, rfl⟩
  · have hb : (h == 0) = false := by simpa using hz
    by_cases hn : h < n
    · have hB : belowB h n = true := by simp [belowB, hb, hn]
      go_enter Try.func13, Try.ntmps13
      go_wp2_with (first | (go_at_call 34; refine (any_any _ _).mono ?_; rintro e w' ⟨rfl, rfl⟩) | (go_at_call 35; refine (below_any _ _ _ h0 h1).mono ?_; rintro e w' ⟨rfl, rfl⟩))
      go_ret2
      exact ⟨ret_left (by simp [leftN, hz, hn]) (by simp [hz]), rfl⟩
    · have hB : belowB h n = false := by simp [belowB, hb, hn]
      have hs : 0 ≤ h - n := by omega
      have hs1 : h - n ≤ 4294967295 := by omega
      by_cases hm : h - n = 4294967295
      · have hm' : (h - n == 4294967295) = true := by simpa using hm
        clear hm
        go_enter Try.func13, Try.ntmps13
        go_wp2_with (first | (go_at_call 34; refine (any_any _ _).mono ?_; rintro e w' ⟨rfl, rfl⟩) | (go_at_call 35; refine (below_any _ _ _ h0 h1).mono ?_; rintro e w' ⟨rfl, rfl⟩))
        go_ret2
        exact ⟨ret_left (by have hm : h - n = 4294967295 := by simpa using hm'
                            simp [leftN, hz, hn, hm]) (by simp [hz]), rfl⟩
      · have hm' : (h - n == 4294967295) = false := by simpa using hm
        have hm2 : h - n + 1 ≤ 4294967295 := by omega
        have Hm := Lib.hid hm
        clear hm
        go_enter Try.func13, Try.ntmps13
        go_wp2_with (first | (go_at_call 34; refine (any_any _ _).mono ?_; rintro e w' ⟨rfl, rfl⟩) | (go_at_call 35; refine (below_any _ _ _ h0 h1).mono ?_; rintro e w' ⟨rfl, rfl⟩))
        go_ret2
        exact ⟨ret_left (by rw [leftN, if_neg hz, if_neg (by omega), if_neg Hm.out]) (by simp [hz]), rfl⟩

set_option maxHeartbeats 400000 in
theorem check_any (h : Int) (w : World) :
    Calls Try.prog 22 #[.int .u32 h] w fun e w' => e = .returned (.int .i64 (if h ≤ 499999999 then 0 else 120)) ∧ w = w' := by
  by_cases hm : 499999999 < h
  · go_enter Try.func22, Try.ntmps22
    go_wp2
    go_ret
    exact ⟨rfl, rfl⟩
  · go_enter Try.func22, Try.ntmps22
    go_wp2
    go_ret
    exact ⟨rfl, rfl⟩

set_option maxHeartbeats 400000 in
theorem shown12 (w : World) :
    Calls Try.prog 14 #[] w fun e w' => e = .returned (.bool true) ∧ w = w' := by
  go_enter Try.func14, Try.ntmps14
  go_wp2
  go_ret
  exact ⟨rfl, rfl⟩

end Go.Proofs.Ytoojmcijldlinaa
