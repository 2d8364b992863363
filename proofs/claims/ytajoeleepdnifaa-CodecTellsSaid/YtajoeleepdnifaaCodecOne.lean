/- Layer 3: bytes that are read as a number are its one Compact, and what is behind; fewer are none. -/
import Derived.Test.YtajoeleepdnifaaCodecLong
namespace Go.Proofs.Ytajoeleepdnifaa
open Go.RowKit
set_option linter.unusedVariables false
set_option linter.unusedSimpArgs false
attribute [local irreducible] Int.lt Int.le
attribute [local go_sem] sB_append le_length

theorem sB_data (s : ByteArray) : sB s.data.toList = s := by
  apply ByteArray.ext
  simp [sB]
theorem readV_err {s : List UInt8} (h : (readV s).2.2 ≠ 0) : (readV s).1 = 0 ∧ (readV s).2.1 = [] ∧ ((readV s).2.2 = 30 ∨ (readV s).2.2 = 31) := by
  cases s with
  | nil => exact ⟨rfl, rfl, .inl rfl⟩
  | cons b l =>
    by_cases h1 : b.toNat < 253
    · rw [readV_low h1] at h; exact absurd rfl h
    · by_cases h2 : l.length < widthOf b
      · rw [readV_short h1 h2]; exact ⟨rfl, rfl, .inl rfl⟩
      · by_cases h3 : unle (l.take (widthOf b)) < leastOf b
        · rw [readV_long h1 h2 h3]; exact ⟨rfl, rfl, .inr rfl⟩
        · rw [readV_well h1 h2 h3] at h; exact absurd rfl h
theorem readV_ok {s : List UInt8} (h : (readV s).2.2 = 0) : compactL (readV s).1 ++ (readV s).2.1 = s ∧ (readV s).1 < 18446744073709551616 := by
  have h0 : (readL s).2.2 = 0 := by
    unfold readV errOf at h
    simp only at h
    split at h
    · assumption
    · split at h <;> omega
  exact compactL_readL (n := (readL s).1) (r := (readL s).2.1) (by rw [← h0])
theorem readV_compact_short {n i : Nat} (hi : i < (compactL n).length) : readV ((compactL n).take i) = (0, [], 30) := by
  unfold readV
  rw [readL_short hi]
  rfl

set_option maxRecDepth 100000 in
set_option maxHeartbeats 1000000 in
theorem codecOne_walk (s : List UInt8) (W : World) : Calls Try.prog 3 #[.string (sB s)] W (LawEnd W) := by
  by_cases hs : 1024 < s.length
  · have hs' : ¬ (s.length : Int) ≤ 1024 := by omega
    go_enter Try.func3, Try.ntmps3
    go_wp2_with fail
    refine (shown03 _).mono ?_
    rintro e w1 ⟨rfl, hb1⟩
    go_wp2
    go_ret
    exact gives_bool rfl hb1
  · have hs' : (s.length : Int) ≤ 1024 := by omega
    have hs2 := Box.mk hs
    clear hs
    go_enter Try.func3, Try.ntmps3
    go_wp2_with fail
    refine (shown03 _).mono ?_
    rintro e w1 ⟨rfl, hb1⟩
    go_wp2_with fail
    refine (read_any s _ (by have := hs2.out; omega)).mono ?_
    rintro e w2 ⟨rfl, hb2⟩
    by_cases he : (readV s).2.2 = 0
    · obtain ⟨hc, hn⟩ := readV_ok he
      rw [show readV s = ((readV s).1, (readV s).2.1, 0) from by rw [← he]]
      generalize (readV s).1 = n at *
      generalize (readV s).2.1 = r at *
      simp only [val3]
      clear he
      replace hn := Box.mk hn
      go_wp2_with fail
      refine (compact_any n _ hn.out).mono ?_
      rintro e w3 ⟨rfl, hb3⟩
      have hcl : (compactL n).length ≤ s.length := by rw [← hc, List.length_append]; omega
      have hcl' : ((compactL n).length : Int) ≤ 1024 := by omega
      have hrl : (r.length : Int) ≤ 1024 := by have := congrArg List.length hc; rw [List.length_append] at this; omega
      have hsh := fun i (hi : i < (compactL n).length) => readV_compact_short hi
      replace hsh := Box.mk hsh
      generalize compactL n = L at *
      have hLr : ¬ 9223372036854775807 < L.length + r.length := by omega
      have hsz := sB_size L
      go_wp2_with fail
      go_loopw [7, 8, 9, 10] (fun i _ _ _ wr => Below w3.heap.size w3 wr ∧ ∃ j : Nat, j ≤ L.length ∧ i = .int .i64 j) (fun i _ _ _ _ => L.length - (intOf i).toNat)
      case atStart => exact ⟨Below.refl _ _, 0, Nat.zero_le _, rfl⟩
      case round =>
        obtain ⟨hbr, j, hj, rfl⟩ := hrel
        by_cases hlt : j < L.length
        · have hR := hsh.out j hlt
          go_wp2_with fail
          rw [sB_extract, List.drop_zero]
          refine (read_any (L.take j) _ (by rw [List.length_take]; omega)).mono ?_
          rintro e w4 ⟨rfl, hb4⟩
          rw [hR]
          simp only [val3]
          go_wp2
          go_roundw
          case rel => exact ⟨since_next hbr hb4, j + 1, by omega, by go_num⟩
          case measure => simp [intOf]; omega
        · obtain rfl : j = L.length := by omega
          go_wp2
          go_ret
          exact gives_bool rfl (since_next (since_next (since_next hb1 hb2) hb3) hbr)
    · obtain ⟨h1, h2, h3⟩ := readV_err he
      rcases h3 with h3 | h3
      all_goals
        rw [show readV s = ((readV s).1, (readV s).2.1, (readV s).2.2) from rfl, h1, h2, h3]
        simp only [val3]
        clear h1 h2 h3 he
        rw [show sB [] = ⟨#[]⟩ from rfl]
        go_wp2
        go_ret
        exact gives_bool rfl (since_next hb1 hb2)

end Go.Proofs.Ytajoeleepdnifaa
