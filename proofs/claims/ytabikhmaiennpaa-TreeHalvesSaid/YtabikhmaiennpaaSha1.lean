/- Package sha: turn. -/
import Derived.Test.YtabikhmaiennpaaBase
import Derived.Test.YtabikhmaiennpaaKey
namespace Go.Proofs.Ytabikhmaiennpaa
open Go.RowKit
set_option linter.unusedVariables false
set_option linter.unusedSimpArgs false
set_option maxRecDepth 100000
attribute [local irreducible] Int.lt Int.le

theorem turn_amount (n : Nat) (h1 : 1 ≤ n) (h2 : n ≤ 31) : bits .and .u64 (IntKind.u64.wrap (-(n : Int))) 31 = ((32 - n : Nat) : Int) := by
  have key : ∀ n : Nat, n < 32 → 1 ≤ n → bits .and .u64 (IntKind.u64.wrap (-(n : Int))) 31 = ((32 - n : Nat) : Int) := by decide +kernel
  exact key n (by omega) h1
theorem rot_nat (x : UInt32) (n m : Nat) (h : n + m = 32) (h1 : 1 ≤ n) : (rotr x n).toNat = (x.toNat * 2 ^ m % 4294967296) ||| (x.toNat / 2 ^ n) := by
  show (x.toBitVec.rotateRight n).toNat = _
  rw [BitVec.toNat_rotateRight, Nat.or_comm]
  by_cases h32 : n = 32
  · subst h32
    obtain rfl : m = 0 := by omega
    show x.toNat <<< (32 - 32 % 32) % 2 ^ 32 ||| x.toNat >>> (32 % 32) = _
    have := x.toNat_lt
    simp only [Nat.mod_self, Nat.sub_zero, Nat.shiftRight_zero, Nat.shiftLeft_eq, Nat.pow_zero, Nat.mul_one]
    rw [Nat.mul_mod_left, Nat.zero_or, Nat.mod_eq_of_lt this, Nat.div_eq_of_lt this, Nat.or_zero]
  · have e : n % 32 = n := Nat.mod_eq_of_lt (by omega)
    show x.toNat <<< (32 - n % 32) % 2 ^ 32 ||| x.toNat >>> (n % 32) = _
    rw [e, Nat.shiftLeft_eq, Nat.shiftRight_eq_div_pow, show 32 - n = m from by omega]
theorem rot_int (x : UInt32) (n m : Nat) (h : n + m = 32) (h1 : 1 ≤ n) : bits .or .u32 (iw x * 2 ^ m % 4294967296) (iw x / 2 ^ n) = iw (rotr x n) := by
  simp only [iw_eq]
  have e1 : ((x.toNat : Int) * 2 ^ m % 4294967296) = ((x.toNat * 2 ^ m % 4294967296 : Nat) : Int) := by simp
  have e2 : ((x.toNat : Int) / 2 ^ n) = ((x.toNat / 2 ^ n : Nat) : Int) := by simp
  have hx := x.toNat_lt
  rw [e1, e2, u32_or_nat _ _ (Nat.mod_lt _ (by decide)) (Nat.lt_of_le_of_lt (Nat.div_le_self _ _) hx), rot_nat x n m h h1]

set_option maxHeartbeats 1000000 in
theorem rotl_any (x : UInt32) (n : Nat) (W : World) (h1 : 1 ≤ n) (h2 : n ≤ 31) : Calls Try.prog 44 #[.int .u32 (iw x), .int .i64 (-(n : Int))] W (Gives (.int .u32 (iw (rotr x n))) W) := by
  have ha := turn_amount n h1 h2
  obtain ⟨m, hm⟩ : ∃ m, m = 32 - n := ⟨_, rfl⟩
  rw [← hm] at ha
  have hm1 : m ≤ 31 := by omega
  have hx := rot_int x n m (by omega) h1
  have hn0 : ((32 : Int) - m) = n := by omega
  replace hm := Box.mk hm
  replace hx := Box.mk hx
  go_enter Try.func44, Try.ntmps44
  go_wp2
  go_ret
  exact gives_int hx.out (Below.refl _ _)
set_option maxHeartbeats 1000000 in
theorem turn_any (x : UInt32) (n : Nat) (W : World) (h1 : 1 ≤ n) (h2 : n ≤ 31) : Calls Try.prog 38 #[.int .u32 (iw x), .int .i64 (n : Int)] W (Gives (.int .u32 (iw (rotr x n))) W) := by
  go_enter Try.func38, Try.ntmps38
  go_wp2_with fail
  refine (rotl_any x n W h1 h2).mono ?_
  rintro e w1 ⟨rfl, hb⟩
  go_wp2
  go_ret
  exact gives_int rfl hb
end Go.Proofs.Ytabikhmaiennpaa
