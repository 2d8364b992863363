/- The references' contracts of layer 12, and the walks of ExpiryTells, ExpiryStays, ExpiryNever. -/
import Derived.Test.YtoojmcijldlinaaExpiry
namespace Go.Proofs.Ytoojmcijldlinaa
open Go.RowKit
set_option linter.unusedVariables false
set_option linter.unusedSimpArgs false

set_option maxHeartbeats 400000 in
theorem rcheck_any (h : Int) (w : World) :
    Calls Try.prog 23 #[.int .u32 h] w fun e w' => e = .returned (.int .i64 (if h ≤ 499999999 then 0 else 120)) ∧ w = w' := by
  by_cases hm : 499999999 < h
  · go_enter Try.func23, Try.ntmps23
    go_wp2
    go_ret
    exact ⟨rfl, rfl⟩
  · go_enter Try.func23, Try.ntmps23
    go_wp2
    go_ret
    exact ⟨rfl, rfl⟩

set_option maxHeartbeats 400000 in
theorem rexpired_any (h n : Int) (w : World) :
    Calls Try.prog 24 #[.int .u32 h, .int .u32 n] w fun e w' => e = .returned (.bool (belowB h n)) ∧ w = w' := by
  by_cases hz : h = 0
  · subst hz
    go_enter Try.func24, Try.ntmps24
    go_wp2
    go_ret
    exact ⟨rfl, rfl⟩
  · have hb : (h == 0) = false := by simpa using hz
    have hb' : (h != 0) = true := by simpa using hz
    go_enter Try.func24, Try.ntmps24
    go_wp2
    go_ret
    exact ⟨by simp [belowB, hb], rfl⟩

set_option maxHeartbeats 400000 in
theorem rsoon_any (h n : Int) (w : World) (h0 : 0 ≤ h) (h1 : h ≤ 4294967295) (n0 : 0 ≤ n) (n1 : n ≤ 4294967295) :
    Calls Try.prog 26 #[.int .u32 h, .int .u32 n] w fun e w' => e = .returned (.bool (belowB h (n + 3))) ∧ w = w' := by
  by_cases hz : h = 0
  · subst hz
    go_enter Try.func26, Try.ntmps26
    go_wp2
    go_ret
    exact ⟨rfl, rfl⟩
  · have hb : (h == 0) = false := by simpa using hz
    have hb' : (h != 0) = true := by simpa using hz
    go_enter Try.func26, Try.ntmps26
    go_wp2
    go_ret
    exact ⟨by simp [belowB, hb], rfl⟩

set_option maxHeartbeats 400000 in
theorem rleft_any (h n : Int) (w : World) (h0 : 0 ≤ h) (h1 : h ≤ 4294967295) (n0 : 0 ≤ n) (n1 : n ≤ 4294967295) :
    Calls Try.prog 21 #[.int .u32 h, .int .u32 n] w fun e w' => e = .returned (.tuple #[.int .u32 (leftN h n), .bool (!(h == 0))]) ∧ w = w' := by
  by_cases hz : h = 0
  · subst hz
    go_enter Try.func21, Try.ntmps21
    go_wp2
    go_ret2
    exact ⟨ret_left rfl rfl, rfl⟩
  · have hb : (h == 0) = false := by simpa using hz
    by_cases hn : h < n
    · go_enter Try.func21, Try.ntmps21
      go_wp2
      go_ret2
      exact ⟨ret_left (by simp [leftN, hz, hn]) (by simp [hz]), rfl⟩
    · have hs : 0 ≤ h - n := by omega
      by_cases hm : h - n = 4294967295
      · obtain rfl : n = 0 := by omega
        obtain rfl : h = 4294967295 := by omega
        go_enter Try.func21, Try.ntmps21
        go_wp2
        go_ret2
        exact ⟨ret_left (by simp [leftN]) (by simp), rfl⟩
      · have hm2 : h - n + 1 ≤ 4294967295 := by omega
        have Hm := Lib.hid hm
        clear hm
        go_enter Try.func21, Try.ntmps21
        go_wp2
        go_ret2
        exact ⟨ret_left (by rw [leftN, if_neg hz, if_neg (by omega), if_neg Hm.out]) (by simp [hz]), rfl⟩

def Ended (w : World) (e : Ending) (w' : World) : Prop := e = .returned (.bool true) ∧ w = w'

set_option maxHeartbeats 800000 in
theorem expiryTells_walk (h n : Int) (w : World) (h0 : 0 ≤ h) (h1 : h ≤ 4294967295) (n0 : 0 ≤ n) (n1 : n ≤ 4294967295) :
    Calls Try.prog 6 #[.int .u32 h, .int .u32 n] w (Ended w) := by
  obtain ⟨c, hc⟩ : ∃ c : Int, c = if h ≤ 499999999 then 0 else 120 := ⟨_, rfl⟩
  obtain ⟨l, hl⟩ : ∃ l : Int, l = leftN h n := ⟨_, rfl⟩
  obtain ⟨b, hb⟩ : ∃ b : Bool, b = !(h == 0) := ⟨_, rfl⟩
  have Hc := Lib.hid hc
  have Hl := Lib.hid hl
  have Hb := Lib.hid hb
  clear hc hl hb
  go_enter Try.func6, Try.ntmps6
  go_wp2_with fail
  refine (left_any _ _ _ h0 h1 n0 n1).mono ?_
  rintro e w' ⟨rfl, rfl⟩
  rw [← Hl.out, ← Hb.out]
  go_wp2_with fail
  refine (rleft_any _ _ _ h0 h1 n0 n1).mono ?_
  rintro e w' ⟨rfl, rfl⟩
  rw [← Hl.out, ← Hb.out]
  go_wp2_with fail
  refine (check_any _ _).mono ?_
  rintro e w' ⟨rfl, rfl⟩
  rw [← Hc.out]
  go_wp2_with fail
  refine (rcheck_any _ _).mono ?_
  rintro e w' ⟨rfl, rfl⟩
  rw [← Hc.out]
  go_wp2_with (first
    | (go_at_call 15; refine (expired_any _ _ _ h0 h1 n0 n1).mono ?_; rintro e w' ⟨rfl, rfl⟩)
    | (go_at_call 24; refine (rexpired_any _ _ _).mono ?_; rintro e w' ⟨rfl, rfl⟩)
    | (go_at_call 25; refine (soon_any _ _ _ h0 h1 n0 n1).mono ?_; rintro e w' ⟨rfl, rfl⟩)
    | (go_at_call 26; refine (rsoon_any _ _ _ h0 h1 n0 n1).mono ?_; rintro e w' ⟨rfl, rfl⟩)
    | (go_at_call 14; refine (shown12 _).mono ?_; rintro e w' ⟨rfl, rfl⟩))
  go_ret
  exact ⟨rfl, rfl⟩

set_option maxHeartbeats 800000 in
theorem expiryNever_walk (n h : Int) (w : World) (h0 : 0 ≤ h) (h1 : h ≤ 4294967295) (n0 : 0 ≤ n) (n1 : n ≤ 4294967295) :
    Calls Try.prog 8 #[.int .u32 n, .int .u32 h] w (Ended w) := by
  obtain ⟨c, hc⟩ : ∃ c : Int, c = if h ≤ 499999999 then 0 else 120 := ⟨_, rfl⟩
  have hcc : (c = 0 ∧ decide (h ≤ 499999999) = true) ∨ (c = 120 ∧ decide (h ≤ 499999999) = false) := by
    by_cases hh : h ≤ 499999999
    · left; rw [if_pos hh] at hc; exact ⟨hc, by simpa using hh⟩
    · right; rw [if_neg hh] at hc; exact ⟨hc, by simpa using hh⟩
  have Hc := Lib.hid hc
  clear hc
  have B : ∀ m, belowB 0 m = false := fun m => rfl
  have hl : leftN 0 n = 0 := rfl
  rcases hcc with ⟨rfl, hh⟩ | ⟨rfl, hh⟩
  all_goals
    go_enter Try.func8, Try.ntmps8
    go_wp2_with fail
    refine (left_any _ _ _ (by omega) (by omega) n0 n1).mono ?_
    rintro e w' ⟨rfl, rfl⟩
    go_wp2_with fail
    refine (expired_any _ _ _ (by omega) (by omega) n0 n1).mono ?_
    rintro e w' ⟨rfl, rfl⟩
    go_wp2_with fail
    refine (soon_any _ _ _ (by omega) (by omega) n0 n1).mono ?_
    rintro e w' ⟨rfl, rfl⟩
    go_wp2_with fail
    refine (check_any _ _).mono ?_
    rintro e w' ⟨rfl, rfl⟩
    go_wp2_with fail
    refine (check_any _ _).mono ?_
    rintro e w' ⟨rfl, rfl⟩
    rw [← Hc.out]
    go_wp2_with (go_at_call 14; refine (shown12 _).mono ?_; rintro e w' ⟨rfl, rfl⟩)
    go_ret
    exact ⟨rfl, rfl⟩

theorem stays_cases (e lo hi : Int) (e0 : 0 ≤ e) (e1 : e ≤ 4294967295) (l0 : 0 ≤ lo) (l1 : lo ≤ hi) :
    ∃ n : Int, leftN e lo = n ∧ (((e == 0) = true ∧ (e != 0) = false ∧ belowB e lo = false ∧ belowB e (lo + 3) = false ∧ n = 0) ∨
      ((e == 0) = false ∧ (e != 0) = true ∧ belowB e lo = true ∧ belowB e hi = true ∧ belowB e (lo + 3) = true ∧ belowB e (hi + 3) = true ∧ n = 0) ∨
      ((e == 0) = false ∧ (e != 0) = true ∧ belowB e lo = false ∧ belowB e (lo + 3) = true ∧ belowB e (hi + 3) = true ∧ decide (n ≤ 3) = true ∧ (n == 0) = false) ∨
      ((e == 0) = false ∧ (e != 0) = true ∧ belowB e lo = false ∧ belowB e (lo + 3) = false ∧ decide (n ≤ 3) = false ∧ (n == 0) = false)) := by
  refine ⟨_, rfl, ?_⟩
  unfold leftN belowB
  by_cases h0 : e = 0
  · left; simp [h0]
  · right
    have hb : (e == 0) = false := by simpa using h0
    have hb' : (e != 0) = true := by simpa using h0
    rw [if_neg h0]
    by_cases h1 : e < lo
    · left
      rw [if_pos h1]
      simp [hb, hb', h1]; omega
    · right
      rw [if_neg h1]
      by_cases h2 : e < lo + 3
      · left
        rw [if_neg (by omega)]
        simp [hb, hb']; omega
      · right
        have : ∃ n : Int, (if e - lo = 4294967295 then 4294967295 else e - lo + 1) = n ∧ 4 ≤ n := ⟨_, rfl, by split <;> omega⟩
        obtain ⟨n, hn, h4⟩ := this
        rw [hn]
        simp [hb, hb']; omega

set_option maxHeartbeats 1600000 in
theorem expiryStays_walk (h a b : Int) (w : World) (h0 : 0 ≤ h) (h1 : h ≤ 4294967295) (a0 : 0 ≤ a) (a1 : a ≤ 4294967295) (b0 : 0 ≤ b) (b1 : b ≤ 4294967295) :
    Calls Try.prog 7 #[.int .u32 h, .int .u32 a, .int .u32 b] w (Ended w) := by
  by_cases hlt : a < b
  · have hab : a ≤ b := by omega
    obtain ⟨n, hn, hc⟩ := stays_cases h a b h0 h1 a0 hab
    rcases hc with ⟨c1, c2, c3, c4, rfl⟩ | ⟨c1, c2, c3, c4, c5, c6, rfl⟩ | ⟨c1, c2, c3, c4, c5, c6, c7⟩ | ⟨c1, c2, c3, c4, c5, c6⟩
    all_goals
      go_enter Try.func7, Try.ntmps7
      go_wp2_with (first
        | (go_at_call 13; refine (left_any _ _ _ h0 h1 (by assumption) (by assumption)).mono ?_; rintro e w' ⟨rfl, rfl⟩)
        | (go_at_call 15; refine (expired_any _ _ _ h0 h1 (by assumption) (by assumption)).mono ?_; rintro e w' ⟨rfl, rfl⟩)
        | (go_at_call 25; refine (soon_any _ _ _ h0 h1 (by assumption) (by assumption)).mono ?_; rintro e w' ⟨rfl, rfl⟩)
        | (go_at_call 14; refine (shown12 _).mono ?_; rintro e w' ⟨rfl, rfl⟩))
      go_ret
      exact ⟨rfl, rfl⟩
  · have hab : b ≤ a := by omega
    by_cases hlt2 : b < a
    · skip
      obtain ⟨n, hn, hc⟩ := stays_cases h b a h0 h1 b0 hab
      rcases hc with ⟨c1, c2, c3, c4, rfl⟩ | ⟨c1, c2, c3, c4, c5, c6, rfl⟩ | ⟨c1, c2, c3, c4, c5, c6, c7⟩ | ⟨c1, c2, c3, c4, c5, c6⟩
      all_goals
        go_enter Try.func7, Try.ntmps7
        go_wp2_with (first
          | (go_at_call 13; refine (left_any _ _ _ h0 h1 (by assumption) (by assumption)).mono ?_; rintro e w' ⟨rfl, rfl⟩)
          | (go_at_call 15; refine (expired_any _ _ _ h0 h1 (by assumption) (by assumption)).mono ?_; rintro e w' ⟨rfl, rfl⟩)
          | (go_at_call 25; refine (soon_any _ _ _ h0 h1 (by assumption) (by assumption)).mono ?_; rintro e w' ⟨rfl, rfl⟩)
          | (go_at_call 14; refine (shown12 _).mono ?_; rintro e w' ⟨rfl, rfl⟩))
        go_ret
        exact ⟨rfl, rfl⟩
    · obtain rfl : a = b := by omega
      obtain ⟨n, hn, hc⟩ := stays_cases h a a h0 h1 a0 hab
      rcases hc with ⟨c1, c2, c3, c4, rfl⟩ | ⟨c1, c2, c3, c4, c5, c6, rfl⟩ | ⟨c1, c2, c3, c4, c5, c6, c7⟩ | ⟨c1, c2, c3, c4, c5, c6⟩
      all_goals
        go_enter Try.func7, Try.ntmps7
        go_wp2_with (first
          | (go_at_call 13; refine (left_any _ _ _ h0 h1 (by assumption) (by assumption)).mono ?_; rintro e w' ⟨rfl, rfl⟩)
          | (go_at_call 15; refine (expired_any _ _ _ h0 h1 (by assumption) (by assumption)).mono ?_; rintro e w' ⟨rfl, rfl⟩)
          | (go_at_call 25; refine (soon_any _ _ _ h0 h1 (by assumption) (by assumption)).mono ?_; rintro e w' ⟨rfl, rfl⟩)
          | (go_at_call 14; refine (shown12 _).mono ?_; rintro e w' ⟨rfl, rfl⟩))
        go_ret
        exact ⟨rfl, rfl⟩

end Go.Proofs.Ytoojmcijldlinaa
