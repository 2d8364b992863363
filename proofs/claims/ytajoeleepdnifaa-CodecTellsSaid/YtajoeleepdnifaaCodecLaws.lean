/- Layer 3: sizes, parts, long ones. -/
import Derived.Test.YtajoeleepdnifaaCodec3
import Derived.Test.YtajoeleepdnifaaLawEnd
import Derived.Test.YtajoeleepdnifaaHeld
namespace Go.Proofs.Ytajoeleepdnifaa
open Go.RowKit
set_option linter.unusedVariables false
set_option linter.unusedSimpArgs false

set_option maxRecDepth 100000 in
theorem shown03 (W : World) : Calls Try.prog 15 #[] W (Gives (.bool true) W) := by
  go_enter Try.func15, Try.ntmps15
  go_wp2_with fail
  refine (read_any [253, 253, 0, 120] _ (by simp)).mono ?_
  rintro e w1 ⟨rfl, hb1⟩
  rw [show readV [253, 253, 0, 120] = (253, [120], 0) from rfl]
  simp only [val3]
  rw [show sB [120] = ⟨#[120]⟩ from rfl]
  go_wp2_with fail
  refine (compact_any 7 _ (by omega)).mono ?_
  rintro e w2 ⟨rfl, hb2⟩
  rw [show compactL 7 = [7] from rfl, show sB [7] = ⟨#[7]⟩ from rfl]
  go_wp2
  go_ret
  exact gives_bool rfl (Below.of hb2 hb1.size hb1)

attribute [local irreducible] Int.lt Int.le
/-- A fact out of the walk's sight. -/
structure Box (p : Prop) : Prop where
  out : p

theorem compactL_mono {a b : Nat} (h : a ≤ b) : (compactL a).length ≤ (compactL b).length := by
  rw [compactL_length, compactL_length]
  repeat' split
  all_goals omega

set_option maxRecDepth 100000 in
set_option maxHeartbeats 1000000 in
theorem codecSizes_walk (a b : Nat) (W : World) (ha : a < 18446744073709551616) (hb : b < 18446744073709551616) : Calls Try.prog 4 #[.int .u64 a, .int .u64 b] W (LawEnd W) := by
  obtain ⟨n, hn⟩ : ∃ n, (compactL a).length = n := ⟨_, rfl⟩
  obtain ⟨m, hm⟩ : ∃ m, (compactL b).length = m := ⟨_, rfl⟩
  have hnm : a ≤ b → n ≤ m := fun h => by rw [← hn, ← hm]; exact compactL_mono h
  have hmn : b ≤ a → m ≤ n := fun h => by rw [← hn, ← hm]; exact compactL_mono h
  have hm9 : m ≤ 9 := by
    rw [← hm, compactL_length]
    repeat' split
    all_goals omega
  have hn' := hn
  rw [compactL_length] at hn'
  have hc : (((n : Int) == 1) = true ∧ (a : Int) < 253 ∧ (a : Int) < 65536 ∧ (a : Int) < 4294967296) ∨ (((n : Int) == 3) = true ∧ ¬ (a : Int) < 253 ∧ (a : Int) < 65536 ∧ (a : Int) < 4294967296) ∨ (((n : Int) == 5) = true ∧ ¬ (a : Int) < 253 ∧ ¬ (a : Int) < 65536 ∧ (a : Int) < 4294967296) ∨ (((n : Int) == 9) = true ∧ ¬ (a : Int) < 253 ∧ ¬ (a : Int) < 65536 ∧ ¬ (a : Int) < 4294967296) := by
    split at hn'
    · left; refine ⟨?_, by omega, by omega, by omega⟩; rw [← hn']; rfl
    · split at hn'
      · right; left; refine ⟨?_, by omega, by omega, by omega⟩; rw [← hn']; rfl
      · split at hn'
        · right; right; left; refine ⟨?_, by omega, by omega, by omega⟩; rw [← hn']; rfl
        · right; right; right; refine ⟨?_, by omega, by omega, by omega⟩; rw [← hn']; rfl
  clear hn'
  replace ha := Box.mk ha
  replace hb := Box.mk hb
  have CA : ∃ ra : ByteArray, ra.size = n ∧ ∀ w : World, Calls Try.prog 17 #[.int .u64 a] w (Gives (.string ra) w) := ⟨_, by rw [sB_size, hn], fun w => compact_any a w ha.out⟩
  have CB : ∃ rb : ByteArray, rb.size = m ∧ ∀ w : World, Calls Try.prog 17 #[.int .u64 b] w (Gives (.string rb) w) := ⟨_, by rw [sB_size, hm], fun w => compact_any b w hb.out⟩
  obtain ⟨ra, hra, CA⟩ := CA
  obtain ⟨rb, hrb, CB⟩ := CB
  replace CA := Lib.hid CA
  replace CB := Lib.hid CB
  clear hn hm
  rcases Int.lt_trichotomy (a : Int) (b : Int) with hab | hab | hab
  · have hle' : (n : Int) ≤ (m : Int) := by have := hnm (by omega); omega
    clear hnm hmn
    rcases hc with ⟨c0, c1, c2, c3⟩ | ⟨c0, c1, c2, c3⟩ | ⟨c0, c1, c2, c3⟩ | ⟨c0, c1, c2, c3⟩
    all_goals
      replace c1 := Box.mk c1
      replace c2 := Box.mk c2
      replace c3 := Box.mk c3
      go_enter Try.func4, Try.ntmps4
      go_wp2_with fail
      refine (CA.out _).mono ?_
      rintro e w1 ⟨rfl, hb1⟩
      go_wp2_with fail
      refine (CB.out _).mono ?_
      rintro e w2 ⟨rfl, hb2⟩
      go_wp2_with fail
      refine (CA.out _).mono ?_
      rintro e w3 ⟨rfl, hb3⟩
      replace c1 := c1.out
      replace c2 := c2.out
      replace c3 := c3.out
      clear hab hm9
      go_wp2_with fail
      refine (shown03 _).mono ?_
      rintro e w4 ⟨rfl, hb4⟩
      go_wp2
      go_ret
      exact gives_bool rfl (since_next (since_next (since_next hb1 hb2) hb3) hb4)
  · obtain rfl : a = b := by omega
    have hle' : (n : Int) ≤ (m : Int) := by have := hnm (by omega); omega
    clear hnm hmn
    rcases hc with ⟨c0, c1, c2, c3⟩ | ⟨c0, c1, c2, c3⟩ | ⟨c0, c1, c2, c3⟩ | ⟨c0, c1, c2, c3⟩
    all_goals
      replace c1 := Box.mk c1
      replace c2 := Box.mk c2
      replace c3 := Box.mk c3
      go_enter Try.func4, Try.ntmps4
      go_wp2_with fail
      refine (CA.out _).mono ?_
      rintro e w1 ⟨rfl, hb1⟩
      go_wp2_with fail
      refine (CB.out _).mono ?_
      rintro e w2 ⟨rfl, hb2⟩
      go_wp2_with fail
      refine (CA.out _).mono ?_
      rintro e w3 ⟨rfl, hb3⟩
      replace c1 := c1.out
      replace c2 := c2.out
      replace c3 := c3.out
      clear hm9
      go_wp2_with fail
      refine (shown03 _).mono ?_
      rintro e w4 ⟨rfl, hb4⟩
      go_wp2
      go_ret
      exact gives_bool rfl (since_next (since_next (since_next hb1 hb2) hb3) hb4)
  · have hle' : (m : Int) ≤ (n : Int) := by have := hmn (by omega); omega
    clear hnm hmn
    rcases hc with ⟨c0, c1, c2, c3⟩ | ⟨c0, c1, c2, c3⟩ | ⟨c0, c1, c2, c3⟩ | ⟨c0, c1, c2, c3⟩
    all_goals
      replace c1 := Box.mk c1
      replace c2 := Box.mk c2
      replace c3 := Box.mk c3
      go_enter Try.func4, Try.ntmps4
      go_wp2_with fail
      refine (CB.out _).mono ?_
      rintro e w1 ⟨rfl, hb1⟩
      go_wp2_with fail
      refine (CA.out _).mono ?_
      rintro e w2 ⟨rfl, hb2⟩
      go_wp2_with fail
      refine (CA.out _).mono ?_
      rintro e w3 ⟨rfl, hb3⟩
      replace c1 := c1.out
      replace c2 := c2.out
      replace c3 := c3.out
      clear hab hm9
      go_wp2_with fail
      refine (shown03 _).mono ?_
      rintro e w4 ⟨rfl, hb4⟩
      go_wp2
      go_ret
      exact gives_bool rfl (since_next (since_next (since_next hb1 hb2) hb3) hb4)

end Go.Proofs.Ytajoeleepdnifaa
