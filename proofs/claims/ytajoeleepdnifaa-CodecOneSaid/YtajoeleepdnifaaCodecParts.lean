/- Layer 3: parts of numbers. -/
import Derived.Test.YtajoeleepdnifaaCodecLong
namespace Go.Proofs.Ytajoeleepdnifaa
open Go.RowKit
set_option linter.unusedVariables false
set_option linter.unusedSimpArgs false
attribute [local irreducible] Int.lt Int.le
attribute [local go_sem] sB_append le_length

set_option maxRecDepth 100000 in
set_option maxHeartbeats 1000000 in
theorem codecParts_walk (n v : Nat) (W : World) (hn : n < 18446744073709551616) (hv : v ≤ 255) : Calls Try.prog 5 #[.int .u64 n, .int .u8 v] W (LawEnd W) := by
  obtain ⟨q, hq, e1⟩ : ∃ q : Nat, q < 7 ∧ (v : Int) % 7 = (q : Int) := ⟨v % 7, Nat.mod_lt _ (by omega), by omega⟩
  have hh : n / 2 ^ (8 * (1 + q)) < 18446744073709551616 := Nat.lt_of_le_of_lt (Nat.div_le_self _ _) hn
  have hle : le (1 + q) n ++ le (7 - q) (n / 2 ^ (8 * (1 + q))) = le 8 n := by
    rw [pow_two_256, ← le_append]
    congr 1
    omega
  have l1 := le_length (1 + q) n
  have l2 := le_length (7 - q) (n / 2 ^ (8 * (1 + q)))
  have hq6 : q ≤ 6 := by omega
  replace hn := Box.mk hn
  replace hh := Box.mk hh
  go_enter Try.func5, Try.ntmps5
  go_wp2_with fail
  refine (put_any n ((1 + q : Nat) : Int) _ hn.out).mono ?_
  rintro e w1 ⟨rfl, hb1⟩
  rw [putL_nat n (1 + q) (by omega) (by omega)]
  go_wp2_with fail
  rw [show (n : Int) / 2 ^ (8 * (1 + q)) = ((n / 2 ^ (8 * (1 + q)) : Nat) : Int) from by simp, show (8 : Int) - (1 + (q : Int)) = ((7 - q : Nat) : Int) from by omega]
  generalize n / 2 ^ (8 * (1 + q)) = m at *
  refine (put_any m ((7 - q : Nat) : Int) _ hh.out).mono ?_
  rintro e w2 ⟨rfl, hb2⟩
  rw [putL_nat m (7 - q) (by omega) (by omega)]
  go_wp2_with fail
  refine (put_any n ((8 : Nat) : Int) _ hn.out).mono ?_
  rintro e w3 ⟨rfl, hb3⟩
  rw [putL_nat n 8 (by omega) (by omega)]
  go_wp2_with fail
  refine (put_any n 0 _ hn.out).mono ?_
  rintro e w4 ⟨rfl, hb4⟩
  rw [show putL n 0 = [] from rfl]
  go_wp2_with fail
  refine (put_any n 9 _ hn.out).mono ?_
  rintro e w5 ⟨rfl, hb5⟩
  rw [show putL n 9 = [] from rfl]
  go_wp2_with fail
  refine (shown03 _).mono ?_
  rintro e w6 ⟨rfl, hb6⟩
  go_wp2
  go_ret
  exact gives_bool rfl (since_next (since_next (since_next (since_next (since_next hb1 hb2) hb3) hb4) hb5) hb6)

end Go.Proofs.Ytajoeleepdnifaa
