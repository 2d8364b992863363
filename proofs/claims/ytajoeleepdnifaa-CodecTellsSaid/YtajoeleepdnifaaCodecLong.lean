/- Layer 3: numbers in more bytes than need be. -/
import Derived.Test.YtajoeleepdnifaaCodecLaws
namespace Go.Proofs.Ytajoeleepdnifaa
open Go.RowKit
set_option linter.unusedVariables false
set_option linter.unusedSimpArgs false
attribute [local irreducible] Int.lt Int.le
attribute [local go_sem] sB_append le_length
theorem putL_nat (n w : Nat) (h : 1 ≤ w) (h8 : w ≤ 8) : putL n (w : Int) = le w n := by unfold putL; rw [if_neg (by omega)]; rfl

theorem readV_253 {n : Nat} (h : n < 253) (r : List UInt8) : readV (253 :: le 2 n ++ r) = (0, [], 31) := by
  rw [List.cons_append]
  refine readV_long (by decide) (by simp [widthOf, le_length]) ?_
  show unle ((le 2 n ++ r).take 2) < 253
  rw [List.take_left' (le_length 2 n), unle_le, Nat.mod_eq_of_lt (by omega)]
  exact h
theorem readV_254 {n : Nat} (h : n < 65536) (r : List UInt8) : readV (254 :: le 4 n ++ r) = (0, [], 31) := by
  rw [List.cons_append]
  refine readV_long (by decide) (by simp [widthOf, le_length]) ?_
  show unle ((le 4 n ++ r).take 4) < 65536
  rw [List.take_left' (le_length 4 n), unle_le, Nat.mod_eq_of_lt (by omega)]
  exact h
theorem readV_255 {n : Nat} (h : n < 4294967296) (r : List UInt8) : readV (255 :: le 8 n ++ r) = (0, [], 31) := by
  rw [List.cons_append]
  refine readV_long (by decide) (by simp [widthOf, le_length]) ?_
  show unle ((le 8 n ++ r).take 8) < 4294967296
  rw [List.take_left' (le_length 8 n), unle_le, Nat.mod_eq_of_lt (by omega)]
  exact h

set_option maxRecDepth 100000 in
set_option maxHeartbeats 1000000 in
theorem codecLong_walk (n : Nat) (s : List UInt8) (W : World) (hn : n < 4294967296) : Calls Try.prog 6 #[.int .u32 n, .string (sB s)] W (LawEnd W) := by
  replace hn := Box.mk hn
  by_cases hs : 200 < s.length
  · go_enter Try.func6, Try.ntmps6
    go_wp2_with fail
    refine (shown03 _).mono ?_
    rintro e w1 ⟨rfl, hb1⟩
    go_wp2
    go_ret
    exact gives_bool rfl hb1
  · have hs' : (s.length : Int) ≤ 200 := by omega
    go_enter Try.func6, Try.ntmps6
    go_wp2_with fail
    refine (shown03 _).mono ?_
    rintro e w1 ⟨rfl, hb1⟩
    have hw : IntKind.u64.wrap (n : Int) = (n : Int) := by have := hn.out; simp [IntKind.wrap, IntKind.bits, IntKind.signed]; omega
    obtain ⟨p, hp, e1⟩ : ∃ p : Nat, p < 253 ∧ (n : Int).tmod 253 = (p : Int) := ⟨n % 253, Nat.mod_lt _ (by omega), by rw [Int.tmod_eq_emod_of_nonneg (by omega)]; rfl⟩
    obtain ⟨q, hq, e2⟩ : ∃ q : Nat, q < 65536 ∧ (n : Int).tmod 65536 = (q : Int) := ⟨n % 65536, Nat.mod_lt _ (by omega), by rw [Int.tmod_eq_emod_of_nonneg (by omega)]; rfl⟩
    replace hp := Box.mk hp
    replace hq := Box.mk hq
    have l1 := le_length 2 p
    have l2 := le_length 4 q
    have l3 := le_length 8 n
    go_wp2_with fail
    refine (put_any p ((2 : Nat) : Int) _ (by have := hp.out; omega)).mono ?_
    rintro e w2 ⟨rfl, hb2⟩
    rw [putL_nat p 2 (by omega) (by omega)]
    go_wp2_with fail
    refine (put_any q ((4 : Nat) : Int) _ (by have := hq.out; omega)).mono ?_
    rintro e w3 ⟨rfl, hb3⟩
    rw [putL_nat q 4 (by omega) (by omega)]
    go_wp2_with fail
    refine (put_any n ((8 : Nat) : Int) _ (by have := hn.out; omega)).mono ?_
    rintro e w4 ⟨rfl, hb4⟩
    rw [putL_nat n 8 (by omega) (by omega)]
    go_wp2_with fail
    refine (read_any (253 :: le 2 p ++ s) _ (by simp [le_length]; omega)).mono ?_
    rintro e w5 ⟨rfl, hb5⟩
    rw [readV_253 hp.out]
    simp only [val3]
    go_wp2_with fail
    refine (read_any (254 :: le 4 q ++ s) _ (by simp [le_length]; omega)).mono ?_
    rintro e w6 ⟨rfl, hb6⟩
    rw [readV_254 hq.out]
    simp only [val3]
    go_wp2_with fail
    refine (read_any (255 :: le 8 n ++ s) _ (by simp [le_length]; omega)).mono ?_
    rintro e w7 ⟨rfl, hb7⟩
    rw [readV_255 hn.out]
    simp only [val3]
    go_wp2
    go_ret
    exact gives_bool rfl (since_next (since_next (since_next (since_next (since_next (since_next hb1 hb2) hb3) hb4) hb5) hb6) hb7)

end Go.Proofs.Ytajoeleepdnifaa
