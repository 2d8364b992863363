/- Layer 3: what was put is read, with what is behind it. -/
import Derived.Test.YtajoeleepdnifaaCodec4
import Derived.Test.YtajoeleepdnifaaCodecOne
namespace Go.Proofs.Ytajoeleepdnifaa
open Go.RowKit
set_option linter.unusedVariables false
set_option linter.unusedSimpArgs false
attribute [local irreducible] Int.lt Int.le
attribute [local go_sem] sB_append le_length
attribute [local go_sem ↓] load_key store_key alloc_key build0_key eq_key
attribute [local go_sem] rowOf_drew rowOf_alloc_old rowOf_alloc_new canPut_drew canPut_alloc_old canPut_alloc_new setCells_alloc_new

theorem keyV_back (k : Key) (r : List UInt8) : keyV (k.val ++ r) = (k, r, 0) := by
  unfold keyV
  rw [dif_pos (by rw [List.length_append, k.2]; omega)]
  have h1 : (k.val ++ r).take 32 = k.val := by rw [List.take_append_of_le_length (by rw [k.2]; exact Nat.le_refl _), List.take_of_length_le (by rw [k.2]; exact Nat.le_refl _)]
  have h2 : (k.val ++ r).drop 32 = r := by rw [List.drop_append_of_le_length (by rw [k.2]; exact Nat.le_refl _), List.drop_of_length_le (by rw [k.2]; exact Nat.le_refl _)]; rfl
  rw [h2, show keyOf (k.val ++ r) (by rw [List.length_append, k.2]; omega) = k from Key.ext h1]
theorem getV_back {n w : Nat} (h : 1 ≤ w) (h8 : w ≤ 8) (r : List UInt8) : getV (le w n ++ r) w = (n % 256 ^ w, r, 0) := by
  rw [getV_well h h8 (by rw [List.length_append, le_length]; omega), List.take_left' (le_length w n), List.drop_left' (le_length w n), unle_le]
theorem readV_back {n : Nat} (hn : n < 18446744073709551616) (r : List UInt8) : readV (compactL n ++ r) = (n, r, 0) := by
  unfold readV
  rw [readL_compactL hn]
  rfl

set_option maxRecDepth 100000 in
set_option maxHeartbeats 2000000 in
theorem codecBack_walk (n v : Nat) (s : List UInt8) (k : Key) (W : World) (hn : n < 18446744073709551616) (hv : v ≤ 255) : Calls Try.prog 8 #[.int .u64 n, .int .u8 v, .string (sB s), .agg (keyC k).toArray] W (LawEnd W) := by
  replace hn := Box.mk hn
  by_cases hs : 1024 < s.length
  · have hs' : ¬ (s.length : Int) ≤ 1024 := by omega
    go_enter Try.func8, Try.ntmps8
    go_wp2_with fail
    refine (shown03 _).mono ?_
    rintro e w1 ⟨rfl, hb1⟩
    go_wp2
    go_ret
    exact gives_bool rfl (Below.of hb1 (by simp) ((Below.refl _ _).alloc (Nat.le_refl _) _))
  · have hs' : (s.length : Int) ≤ 1024 := by omega
    have hs2 := Box.mk hs
    clear hs
    obtain ⟨q, hq, e1⟩ : ∃ q : Nat, q < 8 ∧ (v : Int) % 8 = (q : Int) := ⟨v % 8, Nat.mod_lt _ (by omega), by omega⟩
    go_enter Try.func8, Try.ntmps8
    go_wp2_with fail
    have S0 := (Held.start W 32).row (keyC k) 35 (keyC_length k)
    refine (shown03 _).mono ?_
    rintro e w1 ⟨rfl, hb1⟩
    try clear hcells hrows
    replace S0 := Held.to S0 hb1
    have hcells := Held.cells S0
    have hrows := Held.rows S0
    simp only [CF, RF, World.size_alloc] at hcells hrows
    have hcase : q = 0 ∨ q = 1 ∨ q = 2 ∨ q = 3 ∨ q = 4 ∨ q = 5 ∨ q = 6 ∨ q = 7 := by omega
    clear hq
    rcases hcase with rfl | rfl | rfl | rfl | rfl | rfl | rfl | rfl
    · obtain ⟨p, hp, e2⟩ : ∃ p : Nat, p = n % 256 ^ 1 ∧ (n : Int) % 256 = (p : Int) := ⟨n % 256, rfl, by omega⟩
      replace hp := Box.mk hp
      go_wp2_with fail
      refine (put_any n ((1 : Nat) : Int) _ hn.out).mono ?_
      rintro e w2 ⟨rfl, hb2⟩
      rw [putL_nat n 1 (by omega) (by omega)]
      try clear hcells hrows
      replace S0 := Held.to S0 hb2
      have hcells := Held.cells S0
      have hrows := Held.rows S0
      simp only [CF, RF, World.size_alloc] at hcells hrows
      go_wp2_with fail
      refine (get_any (le 1 n ++ s) ((1 : Nat) : Int) _).mono ?_
      rintro e w3 ⟨rfl, hb3⟩
      rw [getV_back (by omega) (by omega), ← hp.out]
      simp only [val3]
      try clear hcells hrows
      replace S0 := Held.to S0 hb3
      have hcells := Held.cells S0
      have hrows := Held.rows S0
      simp only [CF, RF, World.size_alloc] at hcells hrows
      go_wp2_with fail
      refine (compact_any n _ hn.out).mono ?_
      rintro e w4 ⟨rfl, hb4⟩
      try clear hcells hrows
      replace S0 := Held.to S0 hb4
      have hcells := Held.cells S0
      have hrows := Held.rows S0
      simp only [CF, RF, World.size_alloc] at hcells hrows
      have hcl : ((compactL n).length : Int) ≤ 9 := by have := compactL_length n; (repeat' split at this) <;> omega
      go_wp2_with fail
      refine (read_any (compactL n ++ s) _ (by rw [List.length_append]; have := hs2.out; omega)).mono ?_
      rintro e w5 ⟨rfl, hb5⟩
      rw [readV_back hn.out]
      simp only [val3]
      try clear hcells hrows
      replace S0 := Held.to S0 hb5
      have hcells := Held.cells S0
      have hrows := Held.rows S0
      simp only [CF, RF, World.size_alloc] at hcells hrows
      go_wp2_with fail
      refine (bytes_any k _).mono ?_
      rintro e w6 ⟨rfl, hb6⟩
      try clear hcells hrows
      replace S0 := Held.to S0 hb6
      have hcells := Held.cells S0
      have hrows := Held.rows S0
      simp only [CF, RF, World.size_alloc] at hcells hrows
      have hk32 := k.2
      go_wp2_with fail
      refine (key_any (k.val ++ s) _ (by rw [List.length_append, k.2]; have := hs2.out; omega)).mono ?_
      rintro e w7 ⟨rfl, hb7⟩
      rw [keyV_back]
      simp only [valK]
      try clear hcells hrows
      replace S0 := Held.to S0 hb7
      have hcells := Held.cells S0
      have hrows := Held.rows S0
      simp only [CF, RF, World.size_alloc] at hcells hrows
      have hbW := S0.below
      go_wp2
      go_ret
      exact gives_bool rfl (since_next hbW ((Below.refl _ _).alloc (Nat.le_refl _) _))
    · obtain ⟨p, hp, e2⟩ : ∃ p : Nat, p = n % 256 ^ 2 ∧ (n : Int) % 65536 = (p : Int) := ⟨n % 65536, rfl, by omega⟩
      replace hp := Box.mk hp
      go_wp2_with fail
      refine (put_any n ((2 : Nat) : Int) _ hn.out).mono ?_
      rintro e w2 ⟨rfl, hb2⟩
      rw [putL_nat n 2 (by omega) (by omega)]
      try clear hcells hrows
      replace S0 := Held.to S0 hb2
      have hcells := Held.cells S0
      have hrows := Held.rows S0
      simp only [CF, RF, World.size_alloc] at hcells hrows
      go_wp2_with fail
      refine (get_any (le 2 n ++ s) ((2 : Nat) : Int) _).mono ?_
      rintro e w3 ⟨rfl, hb3⟩
      rw [getV_back (by omega) (by omega), ← hp.out]
      simp only [val3]
      try clear hcells hrows
      replace S0 := Held.to S0 hb3
      have hcells := Held.cells S0
      have hrows := Held.rows S0
      simp only [CF, RF, World.size_alloc] at hcells hrows
      go_wp2_with fail
      refine (compact_any n _ hn.out).mono ?_
      rintro e w4 ⟨rfl, hb4⟩
      try clear hcells hrows
      replace S0 := Held.to S0 hb4
      have hcells := Held.cells S0
      have hrows := Held.rows S0
      simp only [CF, RF, World.size_alloc] at hcells hrows
      have hcl : ((compactL n).length : Int) ≤ 9 := by have := compactL_length n; (repeat' split at this) <;> omega
      go_wp2_with fail
      refine (read_any (compactL n ++ s) _ (by rw [List.length_append]; have := hs2.out; omega)).mono ?_
      rintro e w5 ⟨rfl, hb5⟩
      rw [readV_back hn.out]
      simp only [val3]
      try clear hcells hrows
      replace S0 := Held.to S0 hb5
      have hcells := Held.cells S0
      have hrows := Held.rows S0
      simp only [CF, RF, World.size_alloc] at hcells hrows
      go_wp2_with fail
      refine (bytes_any k _).mono ?_
      rintro e w6 ⟨rfl, hb6⟩
      try clear hcells hrows
      replace S0 := Held.to S0 hb6
      have hcells := Held.cells S0
      have hrows := Held.rows S0
      simp only [CF, RF, World.size_alloc] at hcells hrows
      have hk32 := k.2
      go_wp2_with fail
      refine (key_any (k.val ++ s) _ (by rw [List.length_append, k.2]; have := hs2.out; omega)).mono ?_
      rintro e w7 ⟨rfl, hb7⟩
      rw [keyV_back]
      simp only [valK]
      try clear hcells hrows
      replace S0 := Held.to S0 hb7
      have hcells := Held.cells S0
      have hrows := Held.rows S0
      simp only [CF, RF, World.size_alloc] at hcells hrows
      have hbW := S0.below
      go_wp2
      go_ret
      exact gives_bool rfl (since_next hbW ((Below.refl _ _).alloc (Nat.le_refl _) _))
    · obtain ⟨p, hp, e2⟩ : ∃ p : Nat, p = n % 256 ^ 3 ∧ (n : Int) % 16777216 = (p : Int) := ⟨n % 16777216, rfl, by omega⟩
      replace hp := Box.mk hp
      go_wp2_with fail
      refine (put_any n ((3 : Nat) : Int) _ hn.out).mono ?_
      rintro e w2 ⟨rfl, hb2⟩
      rw [putL_nat n 3 (by omega) (by omega)]
      try clear hcells hrows
      replace S0 := Held.to S0 hb2
      have hcells := Held.cells S0
      have hrows := Held.rows S0
      simp only [CF, RF, World.size_alloc] at hcells hrows
      go_wp2_with fail
      refine (get_any (le 3 n ++ s) ((3 : Nat) : Int) _).mono ?_
      rintro e w3 ⟨rfl, hb3⟩
      rw [getV_back (by omega) (by omega), ← hp.out]
      simp only [val3]
      try clear hcells hrows
      replace S0 := Held.to S0 hb3
      have hcells := Held.cells S0
      have hrows := Held.rows S0
      simp only [CF, RF, World.size_alloc] at hcells hrows
      go_wp2_with fail
      refine (compact_any n _ hn.out).mono ?_
      rintro e w4 ⟨rfl, hb4⟩
      try clear hcells hrows
      replace S0 := Held.to S0 hb4
      have hcells := Held.cells S0
      have hrows := Held.rows S0
      simp only [CF, RF, World.size_alloc] at hcells hrows
      have hcl : ((compactL n).length : Int) ≤ 9 := by have := compactL_length n; (repeat' split at this) <;> omega
      go_wp2_with fail
      refine (read_any (compactL n ++ s) _ (by rw [List.length_append]; have := hs2.out; omega)).mono ?_
      rintro e w5 ⟨rfl, hb5⟩
      rw [readV_back hn.out]
      simp only [val3]
      try clear hcells hrows
      replace S0 := Held.to S0 hb5
      have hcells := Held.cells S0
      have hrows := Held.rows S0
      simp only [CF, RF, World.size_alloc] at hcells hrows
      go_wp2_with fail
      refine (bytes_any k _).mono ?_
      rintro e w6 ⟨rfl, hb6⟩
      try clear hcells hrows
      replace S0 := Held.to S0 hb6
      have hcells := Held.cells S0
      have hrows := Held.rows S0
      simp only [CF, RF, World.size_alloc] at hcells hrows
      have hk32 := k.2
      go_wp2_with fail
      refine (key_any (k.val ++ s) _ (by rw [List.length_append, k.2]; have := hs2.out; omega)).mono ?_
      rintro e w7 ⟨rfl, hb7⟩
      rw [keyV_back]
      simp only [valK]
      try clear hcells hrows
      replace S0 := Held.to S0 hb7
      have hcells := Held.cells S0
      have hrows := Held.rows S0
      simp only [CF, RF, World.size_alloc] at hcells hrows
      have hbW := S0.below
      go_wp2
      go_ret
      exact gives_bool rfl (since_next hbW ((Below.refl _ _).alloc (Nat.le_refl _) _))
    · obtain ⟨p, hp, e2⟩ : ∃ p : Nat, p = n % 256 ^ 4 ∧ (n : Int) % 4294967296 = (p : Int) := ⟨n % 4294967296, rfl, by omega⟩
      replace hp := Box.mk hp
      go_wp2_with fail
      refine (put_any n ((4 : Nat) : Int) _ hn.out).mono ?_
      rintro e w2 ⟨rfl, hb2⟩
      rw [putL_nat n 4 (by omega) (by omega)]
      try clear hcells hrows
      replace S0 := Held.to S0 hb2
      have hcells := Held.cells S0
      have hrows := Held.rows S0
      simp only [CF, RF, World.size_alloc] at hcells hrows
      go_wp2_with fail
      refine (get_any (le 4 n ++ s) ((4 : Nat) : Int) _).mono ?_
      rintro e w3 ⟨rfl, hb3⟩
      rw [getV_back (by omega) (by omega), ← hp.out]
      simp only [val3]
      try clear hcells hrows
      replace S0 := Held.to S0 hb3
      have hcells := Held.cells S0
      have hrows := Held.rows S0
      simp only [CF, RF, World.size_alloc] at hcells hrows
      go_wp2_with fail
      refine (compact_any n _ hn.out).mono ?_
      rintro e w4 ⟨rfl, hb4⟩
      try clear hcells hrows
      replace S0 := Held.to S0 hb4
      have hcells := Held.cells S0
      have hrows := Held.rows S0
      simp only [CF, RF, World.size_alloc] at hcells hrows
      have hcl : ((compactL n).length : Int) ≤ 9 := by have := compactL_length n; (repeat' split at this) <;> omega
      go_wp2_with fail
      refine (read_any (compactL n ++ s) _ (by rw [List.length_append]; have := hs2.out; omega)).mono ?_
      rintro e w5 ⟨rfl, hb5⟩
      rw [readV_back hn.out]
      simp only [val3]
      try clear hcells hrows
      replace S0 := Held.to S0 hb5
      have hcells := Held.cells S0
      have hrows := Held.rows S0
      simp only [CF, RF, World.size_alloc] at hcells hrows
      go_wp2_with fail
      refine (bytes_any k _).mono ?_
      rintro e w6 ⟨rfl, hb6⟩
      try clear hcells hrows
      replace S0 := Held.to S0 hb6
      have hcells := Held.cells S0
      have hrows := Held.rows S0
      simp only [CF, RF, World.size_alloc] at hcells hrows
      have hk32 := k.2
      go_wp2_with fail
      refine (key_any (k.val ++ s) _ (by rw [List.length_append, k.2]; have := hs2.out; omega)).mono ?_
      rintro e w7 ⟨rfl, hb7⟩
      rw [keyV_back]
      simp only [valK]
      try clear hcells hrows
      replace S0 := Held.to S0 hb7
      have hcells := Held.cells S0
      have hrows := Held.rows S0
      simp only [CF, RF, World.size_alloc] at hcells hrows
      have hbW := S0.below
      go_wp2
      go_ret
      exact gives_bool rfl (since_next hbW ((Below.refl _ _).alloc (Nat.le_refl _) _))
    · obtain ⟨p, hp, e2⟩ : ∃ p : Nat, p = n % 256 ^ 5 ∧ (n : Int) % 1099511627776 = (p : Int) := ⟨n % 1099511627776, rfl, by omega⟩
      replace hp := Box.mk hp
      go_wp2_with fail
      refine (put_any n ((5 : Nat) : Int) _ hn.out).mono ?_
      rintro e w2 ⟨rfl, hb2⟩
      rw [putL_nat n 5 (by omega) (by omega)]
      try clear hcells hrows
      replace S0 := Held.to S0 hb2
      have hcells := Held.cells S0
      have hrows := Held.rows S0
      simp only [CF, RF, World.size_alloc] at hcells hrows
      go_wp2_with fail
      refine (get_any (le 5 n ++ s) ((5 : Nat) : Int) _).mono ?_
      rintro e w3 ⟨rfl, hb3⟩
      rw [getV_back (by omega) (by omega), ← hp.out]
      simp only [val3]
      try clear hcells hrows
      replace S0 := Held.to S0 hb3
      have hcells := Held.cells S0
      have hrows := Held.rows S0
      simp only [CF, RF, World.size_alloc] at hcells hrows
      go_wp2_with fail
      refine (compact_any n _ hn.out).mono ?_
      rintro e w4 ⟨rfl, hb4⟩
      try clear hcells hrows
      replace S0 := Held.to S0 hb4
      have hcells := Held.cells S0
      have hrows := Held.rows S0
      simp only [CF, RF, World.size_alloc] at hcells hrows
      have hcl : ((compactL n).length : Int) ≤ 9 := by have := compactL_length n; (repeat' split at this) <;> omega
      go_wp2_with fail
      refine (read_any (compactL n ++ s) _ (by rw [List.length_append]; have := hs2.out; omega)).mono ?_
      rintro e w5 ⟨rfl, hb5⟩
      rw [readV_back hn.out]
      simp only [val3]
      try clear hcells hrows
      replace S0 := Held.to S0 hb5
      have hcells := Held.cells S0
      have hrows := Held.rows S0
      simp only [CF, RF, World.size_alloc] at hcells hrows
      go_wp2_with fail
      refine (bytes_any k _).mono ?_
      rintro e w6 ⟨rfl, hb6⟩
      try clear hcells hrows
      replace S0 := Held.to S0 hb6
      have hcells := Held.cells S0
      have hrows := Held.rows S0
      simp only [CF, RF, World.size_alloc] at hcells hrows
      have hk32 := k.2
      go_wp2_with fail
      refine (key_any (k.val ++ s) _ (by rw [List.length_append, k.2]; have := hs2.out; omega)).mono ?_
      rintro e w7 ⟨rfl, hb7⟩
      rw [keyV_back]
      simp only [valK]
      try clear hcells hrows
      replace S0 := Held.to S0 hb7
      have hcells := Held.cells S0
      have hrows := Held.rows S0
      simp only [CF, RF, World.size_alloc] at hcells hrows
      have hbW := S0.below
      go_wp2
      go_ret
      exact gives_bool rfl (since_next hbW ((Below.refl _ _).alloc (Nat.le_refl _) _))
    · obtain ⟨p, hp, e2⟩ : ∃ p : Nat, p = n % 256 ^ 6 ∧ (n : Int) % 281474976710656 = (p : Int) := ⟨n % 281474976710656, rfl, by omega⟩
      replace hp := Box.mk hp
      go_wp2_with fail
      refine (put_any n ((6 : Nat) : Int) _ hn.out).mono ?_
      rintro e w2 ⟨rfl, hb2⟩
      rw [putL_nat n 6 (by omega) (by omega)]
      try clear hcells hrows
      replace S0 := Held.to S0 hb2
      have hcells := Held.cells S0
      have hrows := Held.rows S0
      simp only [CF, RF, World.size_alloc] at hcells hrows
      go_wp2_with fail
      refine (get_any (le 6 n ++ s) ((6 : Nat) : Int) _).mono ?_
      rintro e w3 ⟨rfl, hb3⟩
      rw [getV_back (by omega) (by omega), ← hp.out]
      simp only [val3]
      try clear hcells hrows
      replace S0 := Held.to S0 hb3
      have hcells := Held.cells S0
      have hrows := Held.rows S0
      simp only [CF, RF, World.size_alloc] at hcells hrows
      go_wp2_with fail
      refine (compact_any n _ hn.out).mono ?_
      rintro e w4 ⟨rfl, hb4⟩
      try clear hcells hrows
      replace S0 := Held.to S0 hb4
      have hcells := Held.cells S0
      have hrows := Held.rows S0
      simp only [CF, RF, World.size_alloc] at hcells hrows
      have hcl : ((compactL n).length : Int) ≤ 9 := by have := compactL_length n; (repeat' split at this) <;> omega
      go_wp2_with fail
      refine (read_any (compactL n ++ s) _ (by rw [List.length_append]; have := hs2.out; omega)).mono ?_
      rintro e w5 ⟨rfl, hb5⟩
      rw [readV_back hn.out]
      simp only [val3]
      try clear hcells hrows
      replace S0 := Held.to S0 hb5
      have hcells := Held.cells S0
      have hrows := Held.rows S0
      simp only [CF, RF, World.size_alloc] at hcells hrows
      go_wp2_with fail
      refine (bytes_any k _).mono ?_
      rintro e w6 ⟨rfl, hb6⟩
      try clear hcells hrows
      replace S0 := Held.to S0 hb6
      have hcells := Held.cells S0
      have hrows := Held.rows S0
      simp only [CF, RF, World.size_alloc] at hcells hrows
      have hk32 := k.2
      go_wp2_with fail
      refine (key_any (k.val ++ s) _ (by rw [List.length_append, k.2]; have := hs2.out; omega)).mono ?_
      rintro e w7 ⟨rfl, hb7⟩
      rw [keyV_back]
      simp only [valK]
      try clear hcells hrows
      replace S0 := Held.to S0 hb7
      have hcells := Held.cells S0
      have hrows := Held.rows S0
      simp only [CF, RF, World.size_alloc] at hcells hrows
      have hbW := S0.below
      go_wp2
      go_ret
      exact gives_bool rfl (since_next hbW ((Below.refl _ _).alloc (Nat.le_refl _) _))
    · obtain ⟨p, hp, e2⟩ : ∃ p : Nat, p = n % 256 ^ 7 ∧ (n : Int) % 72057594037927936 = (p : Int) := ⟨n % 72057594037927936, rfl, by omega⟩
      replace hp := Box.mk hp
      go_wp2_with fail
      refine (put_any n ((7 : Nat) : Int) _ hn.out).mono ?_
      rintro e w2 ⟨rfl, hb2⟩
      rw [putL_nat n 7 (by omega) (by omega)]
      try clear hcells hrows
      replace S0 := Held.to S0 hb2
      have hcells := Held.cells S0
      have hrows := Held.rows S0
      simp only [CF, RF, World.size_alloc] at hcells hrows
      go_wp2_with fail
      refine (get_any (le 7 n ++ s) ((7 : Nat) : Int) _).mono ?_
      rintro e w3 ⟨rfl, hb3⟩
      rw [getV_back (by omega) (by omega), ← hp.out]
      simp only [val3]
      try clear hcells hrows
      replace S0 := Held.to S0 hb3
      have hcells := Held.cells S0
      have hrows := Held.rows S0
      simp only [CF, RF, World.size_alloc] at hcells hrows
      go_wp2_with fail
      refine (compact_any n _ hn.out).mono ?_
      rintro e w4 ⟨rfl, hb4⟩
      try clear hcells hrows
      replace S0 := Held.to S0 hb4
      have hcells := Held.cells S0
      have hrows := Held.rows S0
      simp only [CF, RF, World.size_alloc] at hcells hrows
      have hcl : ((compactL n).length : Int) ≤ 9 := by have := compactL_length n; (repeat' split at this) <;> omega
      go_wp2_with fail
      refine (read_any (compactL n ++ s) _ (by rw [List.length_append]; have := hs2.out; omega)).mono ?_
      rintro e w5 ⟨rfl, hb5⟩
      rw [readV_back hn.out]
      simp only [val3]
      try clear hcells hrows
      replace S0 := Held.to S0 hb5
      have hcells := Held.cells S0
      have hrows := Held.rows S0
      simp only [CF, RF, World.size_alloc] at hcells hrows
      go_wp2_with fail
      refine (bytes_any k _).mono ?_
      rintro e w6 ⟨rfl, hb6⟩
      try clear hcells hrows
      replace S0 := Held.to S0 hb6
      have hcells := Held.cells S0
      have hrows := Held.rows S0
      simp only [CF, RF, World.size_alloc] at hcells hrows
      have hk32 := k.2
      go_wp2_with fail
      refine (key_any (k.val ++ s) _ (by rw [List.length_append, k.2]; have := hs2.out; omega)).mono ?_
      rintro e w7 ⟨rfl, hb7⟩
      rw [keyV_back]
      simp only [valK]
      try clear hcells hrows
      replace S0 := Held.to S0 hb7
      have hcells := Held.cells S0
      have hrows := Held.rows S0
      simp only [CF, RF, World.size_alloc] at hcells hrows
      have hbW := S0.below
      go_wp2
      go_ret
      exact gives_bool rfl (since_next hbW ((Below.refl _ _).alloc (Nat.le_refl _) _))
    · obtain ⟨p, hp⟩ : ∃ p : Nat, p = n % 256 ^ 8 := ⟨n % 18446744073709551616, rfl⟩
      replace hp := Box.mk hp
      have e3 : n % 256 ^ 8 = n := Nat.mod_eq_of_lt hn.out
      replace e3 := Box.mk e3
      go_wp2_with fail
      refine (put_any n ((8 : Nat) : Int) _ hn.out).mono ?_
      rintro e w2 ⟨rfl, hb2⟩
      rw [putL_nat n 8 (by omega) (by omega)]
      try clear hcells hrows
      replace S0 := Held.to S0 hb2
      have hcells := Held.cells S0
      have hrows := Held.rows S0
      simp only [CF, RF, World.size_alloc] at hcells hrows
      go_wp2_with fail
      refine (get_any (le 8 n ++ s) ((8 : Nat) : Int) _).mono ?_
      rintro e w3 ⟨rfl, hb3⟩
      rw [getV_back (by omega) (by omega), e3.out]
      simp only [val3]
      try clear hcells hrows
      replace S0 := Held.to S0 hb3
      have hcells := Held.cells S0
      have hrows := Held.rows S0
      simp only [CF, RF, World.size_alloc] at hcells hrows
      go_wp2_with fail
      refine (compact_any n _ hn.out).mono ?_
      rintro e w4 ⟨rfl, hb4⟩
      try clear hcells hrows
      replace S0 := Held.to S0 hb4
      have hcells := Held.cells S0
      have hrows := Held.rows S0
      simp only [CF, RF, World.size_alloc] at hcells hrows
      have hcl : ((compactL n).length : Int) ≤ 9 := by have := compactL_length n; (repeat' split at this) <;> omega
      go_wp2_with fail
      refine (read_any (compactL n ++ s) _ (by rw [List.length_append]; have := hs2.out; omega)).mono ?_
      rintro e w5 ⟨rfl, hb5⟩
      rw [readV_back hn.out]
      simp only [val3]
      try clear hcells hrows
      replace S0 := Held.to S0 hb5
      have hcells := Held.cells S0
      have hrows := Held.rows S0
      simp only [CF, RF, World.size_alloc] at hcells hrows
      go_wp2_with fail
      refine (bytes_any k _).mono ?_
      rintro e w6 ⟨rfl, hb6⟩
      try clear hcells hrows
      replace S0 := Held.to S0 hb6
      have hcells := Held.cells S0
      have hrows := Held.rows S0
      simp only [CF, RF, World.size_alloc] at hcells hrows
      have hk32 := k.2
      go_wp2_with fail
      refine (key_any (k.val ++ s) _ (by rw [List.length_append, k.2]; have := hs2.out; omega)).mono ?_
      rintro e w7 ⟨rfl, hb7⟩
      rw [keyV_back]
      simp only [valK]
      try clear hcells hrows
      replace S0 := Held.to S0 hb7
      have hcells := Held.cells S0
      have hrows := Held.rows S0
      simp only [CF, RF, World.size_alloc] at hcells hrows
      have hbW := S0.below
      go_wp2
      go_ret
      exact gives_bool rfl (since_next hbW ((Below.refl _ _).alloc (Nat.le_refl _) _))

end Go.Proofs.Ytajoeleepdnifaa
