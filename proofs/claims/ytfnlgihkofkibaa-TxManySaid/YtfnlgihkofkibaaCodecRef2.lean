/- The document's own answers of layer 3: Compact, Read, Key, Bytes. -/
import Derived.Test.YtfnlgihkofkibaaCodecRef
namespace Go.Proofs.Ytfnlgihkofkibaa
set_option maxRecDepth 100000
open Go.RowKit
set_option linter.unusedVariables false
set_option linter.unusedSimpArgs false
attribute [local irreducible] Int.lt Int.le
attribute [local go_sem] sB_append le_length
attribute [local go_sem ↓] load_key store_key alloc_key build0_key eq_key append_u8
attribute [local go_sem] rowOf_drew rowOf_alloc_old rowOf_alloc_new canPut_drew canPut_alloc_old canPut_alloc_new setCells_alloc_new

set_option maxRecDepth 100000 in
theorem refCompact_any (n : Nat) (W : World) (hn : n < 18446744073709551616) : Calls Try.prog 54 #[.int .u64 n] W (Gives (.string (sB (compactL n))) W) := by
  replace hn := Box.mk hn
  go_enter Try.func54, Try.ntmps54
  by_cases h1 : n < 253
  · have hp : compactL n = le 1 n := by unfold compactL; rw [if_pos h1]
    rw [hp]
    clear hp
    have g1 : (n : Int) < 253 := by omega
    clear h1
    go_wp2_with fail
    refine (refPut_any n ((1 : Nat) : Int) _ hn.out).mono ?_
    rintro e w1 ⟨rfl, hb⟩
    rw [putL_nat n 1 (by omega) (by omega)]
    go_wp2
    go_ret
    exact gives rfl hb
  · by_cases h2 : n < 65536
    · have hp : compactL n = 253 :: le 2 n := by unfold compactL; rw [if_neg h1, if_pos h2]
      rw [hp]
      clear hp
      have g1 : ¬ (n : Int) < 253 := by omega
      have g2 : (n : Int) ≤ 65535 := by omega
      clear h1 h2
      go_wp2_with fail
      refine (refPut_any n ((2 : Nat) : Int) _ hn.out).mono ?_
      rintro e w1 ⟨rfl, hb⟩
      rw [putL_nat n 2 (by omega) (by omega)]
      have hr := le_length 2 n
      generalize le 2 n = r at *
      go_wp2
      go_ret
      exact gives rfl hb
    · by_cases h3 : n < 4294967296
      · have hp : compactL n = 254 :: le 4 n := by unfold compactL; rw [if_neg h1, if_neg h2, if_pos h3]
        rw [hp]
        clear hp
        have g1 : ¬ (n : Int) < 253 := by omega
        have g2 : ¬ (n : Int) ≤ 65535 := by omega
        have g3 : (n : Int) ≤ 4294967295 := by omega
        clear h1 h2 h3
        go_wp2_with fail
        refine (refPut_any n ((4 : Nat) : Int) _ hn.out).mono ?_
        rintro e w1 ⟨rfl, hb⟩
        rw [putL_nat n 4 (by omega) (by omega)]
        have hr := le_length 4 n
        generalize le 4 n = r at *
        go_wp2
        go_ret
        exact gives rfl hb
      · have hp : compactL n = 255 :: le 8 n := by unfold compactL; rw [if_neg h1, if_neg h2, if_neg h3]
        rw [hp]
        clear hp
        have g1 : ¬ (n : Int) < 253 := by omega
        have g2 : ¬ (n : Int) ≤ 65535 := by omega
        have g3 : ¬ (n : Int) ≤ 4294967295 := by omega
        clear h1 h2 h3
        go_wp2_with fail
        refine (refPut_any n ((8 : Nat) : Int) _ hn.out).mono ?_
        rintro e w1 ⟨rfl, hb⟩
        rw [putL_nat n 8 (by omega) (by omega)]
        have hr := le_length 8 n
        generalize le 8 n = r at *
        go_wp2
        go_ret
        exact gives rfl hb

set_option maxHeartbeats 2000000 in
set_option maxRecDepth 100000 in
theorem refRead_any (s : List UInt8) (W : World) (hs : s.length ≤ 1000000000) : Calls Try.prog 74 #[.string (sB s)] W (Gives (val3 (readV s)) W) := by
  cases s with
  | nil =>
    rw [show readV [] = (0, [], 30) from rfl]
    go_enter Try.func74, Try.ntmps74
    go_wp2
    refine bodyPost_ret (v := val3 (0, [], 30)) (by simp [results, Try.results74, go_sem, val3]; try rfl) rfl ?_
    exact gives rfl (Below.refl _ _)
  | cons b l =>
    have hsz := sB_size (b :: l)
    have hb : b.toNat < 256 := b.toNat_lt
    simp only [List.length_cons] at hs hsz
    have g5 : (0 : Int) < (l.length : Int) + 1 := by omega
    have g6 : ((l.length : Int) + 1 == 0) = false := by simp; omega
    go_enter Try.func74, Try.ntmps74
    by_cases hlow : b.toNat < 253
    · rw [readV_low hlow]
      have g1 : ((b.toNat : Int) == 255) = false := by simp; omega
      have g2 : ((b.toNat : Int) == 254) = false := by simp; omega
      have g3 : ((b.toNat : Int) == 253) = false := by simp; omega
      have g4 : (1 : Int) ≤ (l.length : Int) + 1 := by omega
      go_wp2_with fail
      (refine region_since (by kernel_rfl) (by kernel_rfl) ?_)
      repeat (first
        | (refine wpQuiet_goff rfl rfl rfl rfl ?_; simp only [Act.put, List.setIfInBounds_toArray, List.set_cons_succ, List.set_cons_zero])
        | (first
             | refine wpQuiet_free rfl ?_
             | refine wpQuiet_gon rfl rfl rfl rfl ?_
           apply Exists.intro
           refine ⟨fun w' hw' => ?_, ?_⟩
           · (obtain ⟨hc', hr', hs'⟩ := since_facts hw'
              unfold Oper.quietAt
              go_simp
              try go_bits
              first
                | exact quietUpon_value rfl
                | exact rfl
                | (apply quietUpon_enter
                   first
                   | fail))
           simp only [Act.put, List.setIfInBounds_toArray, List.set_cons_succ, List.set_cons_zero]))
      first
        | refine wpQuiet_nil ?_
        | fail "QUIET stopped"
      intro wq hwq'
      go_wp2
      refine bodyPost_ret (v := val3 (b.toNat, l, 0)) (by simp [results, Try.results74, go_sem, val3]) rfl ?_
      exact gives rfl hwq'
    · rcases byte_high hlow with rfl | rfl | rfl
      · have hlit : (253 : UInt8).toNat = 253 := rfl
        go_wp2_with fail
        refine (refGet_any l 2 _).mono ?_
        rintro e w1 ⟨rfl, hb1⟩
        by_cases hl : l.length < 2
        · have hR := Box.mk (readV_short hlow hl)
          rw [show ((2 : Int)) = ((2 : Nat) : Int) from rfl, getV_short (by omega) (by omega) hl]
          simp only [val3]
          go_wp2
          refine bodyPost_ret (v := val3 (0, [], 30)) (by simp [results, Try.results74, go_sem, val3]; try rfl) rfl ?_
          exact gives (by rw [hR.out]) hb1
        · rw [show ((2 : Int)) = ((2 : Nat) : Int) from rfl, getV_well (by omega) (by omega) hl]
          have hlt := unle_lt (l.take 2)
          rw [List.length_take, Nat.min_eq_left (by omega)] at hlt
          have hcl := compactL_length (unle (l.take 2))
          by_cases hlo : unle (l.take 2) < 253
          · have hR := Box.mk (readV_long hlow hl hlo)
            have hne : ((compactL (unle (l.take 2))).length : Int) ≤ 2 := by (repeat' split at hcl) <;> omega
            obtain ⟨n, hn⟩ : ∃ n, n = unle (l.take 2) := ⟨_, rfl⟩
            rw [← hn] at hlo hne hlt ⊢
            have hn64 : n < 18446744073709551616 := by omega
            have hnb := Box.mk hn64
            clear hlo hlt hn64 hcl
            replace hn := Box.mk hn
            simp only [val3]
            go_wp2_with fail
            refine (refCompact_any n _ hnb.out).mono ?_
            rintro e w2 ⟨rfl, hb2⟩
            have hq : (((compactL n).length : Int) == 2 + 1) = false := by simp; omega
            go_wp2
            refine bodyPost_ret (v := val3 (0, [], 31)) (by simp [results, Try.results74, go_sem, val3]; try rfl) rfl ?_
            exact gives (by rw [hR.out]) (since_next hb1 hb2)
          · have hR := Box.mk (readV_well hlow hl hlo)
            have hne : ((compactL (unle (l.take 2))).length : Int) = 2 + 1 := by (repeat' split at hcl) <;> omega
            obtain ⟨n, hn⟩ : ∃ n, n = unle (l.take 2) := ⟨_, rfl⟩
            rw [← hn] at hlo hne hlt ⊢
            have hn64 : n < 18446744073709551616 := by omega
            have hnb := Box.mk hn64
            clear hlo hlt hn64 hcl
            replace hn := Box.mk hn
            simp only [val3]
            go_wp2_with fail
            refine (refCompact_any n _ hnb.out).mono ?_
            rintro e w2 ⟨rfl, hb2⟩
            go_wp2
            refine bodyPost_ret (v := val3 (n, l.drop 2, 0)) (by simp [results, Try.results74, go_sem, val3]; try rfl) rfl ?_
            exact gives (by rw [hR.out, hn.out]; rfl) (since_next hb1 hb2)
      · have hlit : (254 : UInt8).toNat = 254 := rfl
        go_wp2_with fail
        refine (refGet_any l 4 _).mono ?_
        rintro e w1 ⟨rfl, hb1⟩
        by_cases hl : l.length < 4
        · have hR := Box.mk (readV_short hlow hl)
          rw [show ((4 : Int)) = ((4 : Nat) : Int) from rfl, getV_short (by omega) (by omega) hl]
          simp only [val3]
          go_wp2
          refine bodyPost_ret (v := val3 (0, [], 30)) (by simp [results, Try.results74, go_sem, val3]; try rfl) rfl ?_
          exact gives (by rw [hR.out]) hb1
        · rw [show ((4 : Int)) = ((4 : Nat) : Int) from rfl, getV_well (by omega) (by omega) hl]
          have hlt := unle_lt (l.take 4)
          rw [List.length_take, Nat.min_eq_left (by omega)] at hlt
          have hcl := compactL_length (unle (l.take 4))
          by_cases hlo : unle (l.take 4) < 65536
          · have hR := Box.mk (readV_long hlow hl hlo)
            have hne : ((compactL (unle (l.take 4))).length : Int) ≤ 4 := by (repeat' split at hcl) <;> omega
            obtain ⟨n, hn⟩ : ∃ n, n = unle (l.take 4) := ⟨_, rfl⟩
            rw [← hn] at hlo hne hlt ⊢
            have hn64 : n < 18446744073709551616 := by omega
            have hnb := Box.mk hn64
            clear hlo hlt hn64 hcl
            replace hn := Box.mk hn
            simp only [val3]
            go_wp2_with fail
            refine (refCompact_any n _ hnb.out).mono ?_
            rintro e w2 ⟨rfl, hb2⟩
            have hq : (((compactL n).length : Int) == 4 + 1) = false := by simp; omega
            go_wp2
            refine bodyPost_ret (v := val3 (0, [], 31)) (by simp [results, Try.results74, go_sem, val3]; try rfl) rfl ?_
            exact gives (by rw [hR.out]) (since_next hb1 hb2)
          · have hR := Box.mk (readV_well hlow hl hlo)
            have hne : ((compactL (unle (l.take 4))).length : Int) = 4 + 1 := by (repeat' split at hcl) <;> omega
            obtain ⟨n, hn⟩ : ∃ n, n = unle (l.take 4) := ⟨_, rfl⟩
            rw [← hn] at hlo hne hlt ⊢
            have hn64 : n < 18446744073709551616 := by omega
            have hnb := Box.mk hn64
            clear hlo hlt hn64 hcl
            replace hn := Box.mk hn
            simp only [val3]
            go_wp2_with fail
            refine (refCompact_any n _ hnb.out).mono ?_
            rintro e w2 ⟨rfl, hb2⟩
            go_wp2
            refine bodyPost_ret (v := val3 (n, l.drop 4, 0)) (by simp [results, Try.results74, go_sem, val3]; try rfl) rfl ?_
            exact gives (by rw [hR.out, hn.out]; rfl) (since_next hb1 hb2)
      · have hlit : (255 : UInt8).toNat = 255 := rfl
        go_wp2_with fail
        refine (refGet_any l 8 _).mono ?_
        rintro e w1 ⟨rfl, hb1⟩
        by_cases hl : l.length < 8
        · have hR := Box.mk (readV_short hlow hl)
          rw [show ((8 : Int)) = ((8 : Nat) : Int) from rfl, getV_short (by omega) (by omega) hl]
          simp only [val3]
          go_wp2
          refine bodyPost_ret (v := val3 (0, [], 30)) (by simp [results, Try.results74, go_sem, val3]; try rfl) rfl ?_
          exact gives (by rw [hR.out]) hb1
        · rw [show ((8 : Int)) = ((8 : Nat) : Int) from rfl, getV_well (by omega) (by omega) hl]
          have hlt := unle_lt (l.take 8)
          rw [List.length_take, Nat.min_eq_left (by omega)] at hlt
          have hcl := compactL_length (unle (l.take 8))
          by_cases hlo : unle (l.take 8) < 4294967296
          · have hR := Box.mk (readV_long hlow hl hlo)
            have hne : ((compactL (unle (l.take 8))).length : Int) ≤ 8 := by (repeat' split at hcl) <;> omega
            obtain ⟨n, hn⟩ : ∃ n, n = unle (l.take 8) := ⟨_, rfl⟩
            rw [← hn] at hlo hne hlt ⊢
            have hn64 : n < 18446744073709551616 := by omega
            have hnb := Box.mk hn64
            clear hlo hlt hn64 hcl
            replace hn := Box.mk hn
            simp only [val3]
            go_wp2_with fail
            refine (refCompact_any n _ hnb.out).mono ?_
            rintro e w2 ⟨rfl, hb2⟩
            have hq : (((compactL n).length : Int) == 8 + 1) = false := by simp; omega
            go_wp2
            refine bodyPost_ret (v := val3 (0, [], 31)) (by simp [results, Try.results74, go_sem, val3]; try rfl) rfl ?_
            exact gives (by rw [hR.out]) (since_next hb1 hb2)
          · have hR := Box.mk (readV_well hlow hl hlo)
            have hne : ((compactL (unle (l.take 8))).length : Int) = 8 + 1 := by (repeat' split at hcl) <;> omega
            obtain ⟨n, hn⟩ : ∃ n, n = unle (l.take 8) := ⟨_, rfl⟩
            rw [← hn] at hlo hne hlt ⊢
            have hn64 : n < 18446744073709551616 := by omega
            have hnb := Box.mk hn64
            clear hlo hlt hn64 hcl
            replace hn := Box.mk hn
            simp only [val3]
            go_wp2_with fail
            refine (refCompact_any n _ hnb.out).mono ?_
            rintro e w2 ⟨rfl, hb2⟩
            go_wp2
            refine bodyPost_ret (v := val3 (n, l.drop 8, 0)) (by simp [results, Try.results74, go_sem, val3]; try rfl) rfl ?_
            exact gives (by rw [hR.out, hn.out]; rfl) (since_next hb1 hb2)

end Go.Proofs.Ytfnlgihkofkibaa
