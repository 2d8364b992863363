/- The contracts of package codec: Read, Key, Bytes. -/
import Derived.Test.YtahkiabpjfcfdaaCodec2
import Derived.Test.YtahkiabpjfcfdaaRes
namespace Go.Proofs.Ytahkiabpjfcfdaa
set_option maxRecDepth 100000
open Go.RowKit
set_option linter.unusedVariables false
set_option linter.unusedSimpArgs false

@[go_sem] theorem sB_get0 (b : UInt8) (l : List UInt8) (h : 0 < (sB (b :: l)).size) : (sB (b :: l))[0]'h = b := rfl
@[go_sem] theorem sB_tail (b : UInt8) (l : List UInt8) : (sB (b :: l)).extract 1 (l.length + 1) = sB l := by rw [sB_extract]; simp
def errOf (n : Nat) : Int := if n = 0 then 0 else if n = 1 then 30 else 31
def readV (s : List UInt8) : Nat × List UInt8 × Int := ((readL s).1, (readL s).2.1, errOf (readL s).2.2)
theorem readV_low {b : UInt8} {l : List UInt8} (h : b.toNat < 253) : readV (b :: l) = (b.toNat, l, 0) := by simp [readV, readL, h, errOf]
theorem readV_short {b : UInt8} {l : List UInt8} (h : ¬ b.toNat < 253) (h1 : l.length < widthOf b) : readV (b :: l) = (0, [], 30) := by simp [readV, readL, h, h1, errOf]
theorem readV_long {b : UInt8} {l : List UInt8} (h : ¬ b.toNat < 253) (h1 : ¬ l.length < widthOf b) (h2 : unle (l.take (widthOf b)) < leastOf b) : readV (b :: l) = (0, [], 31) := by simp [readV, readL, h, h1, h2, errOf]
theorem readV_well {b : UInt8} {l : List UInt8} (h : ¬ b.toNat < 253) (h1 : ¬ l.length < widthOf b) (h2 : ¬ unle (l.take (widthOf b)) < leastOf b) : readV (b :: l) = (unle (l.take (widthOf b)), l.drop (widthOf b), 0) := by simp [readV, readL, h, h1, h2, errOf]
theorem getV_short {l : List UInt8} {w : Nat} (h : 1 ≤ w) (h8 : w ≤ 8) (hl : l.length < w) : getV l w = (0, [], 30) := by unfold getV; rw [if_neg (by omega), if_pos (by omega)]
theorem getV_well {l : List UInt8} {w : Nat} (h : 1 ≤ w) (h8 : w ≤ 8) (hl : ¬ l.length < w) : getV l w = (unle (l.take w), l.drop w, 0) := by unfold getV; rw [if_neg (by omega), if_neg (by omega)]; rfl

set_option maxHeartbeats 2000000 in
set_option maxRecDepth 100000 in
theorem read_any (s : List UInt8) (W : World) (hs : s.length ≤ 1000000000) : Calls Try.prog 58 #[.string (sB s)] W (Gives (val3 (readV s)) W) := by
  cases s with
  | nil =>
    rw [show readV [] = (0, [], 30) from rfl]
    go_enter Try.func58, Try.ntmps58
    go_wp2
    refine bodyPost_ret (v := val3 (0, [], 30)) (by simp [results, Try.results58, go_sem, val3]; try rfl) rfl ?_
    exact gives rfl (Below.refl _ _)
  | cons b l =>
    have hsz := sB_size (b :: l)
    have hb : b.toNat < 256 := b.toNat_lt
    simp only [List.length_cons] at hs hsz
    go_enter Try.func58, Try.ntmps58
    by_cases hlow : b.toNat < 253
    · rw [readV_low hlow]
      have g1 : ((b.toNat : Int) == 255) = false := by simp; omega
      have g2 : ((b.toNat : Int) == 254) = false := by simp; omega
      have g3 : ((b.toNat : Int) == 253) = false := by simp; omega
      have g4 : (1 : Int) ≤ (l.length : Int) + 1 := by omega
      have g5 : (0 : Int) < (l.length : Int) + 1 := by omega
      go_wp2_with fail
      (refine region_since (by kernel_rfl) (by kernel_rfl) ?_)
      repeat (first
        | (refine wpQuiet_goff rfl rfl rfl rfl ?_; simp only [Act.put, List.setIfInBounds_toArray, List.set_cons_succ, List.set_cons_zero])
        | (first
             | refine wpQuiet_free rfl ?_
             | refine wpQuiet_gon rfl rfl rfl rfl ?_
           apply Exists.intro
           refine ⟨fun w' hw' => ?_, ?_⟩
           · (obtain ⟨hc', hr', hs'⟩ := since_facts hw'
              unfold Oper.quietAt
              go_simp
              try go_bits
              first
                | exact quietUpon_value rfl
                | exact rfl
                | (apply quietUpon_enter
                   first
                   | fail))
           simp only [Act.put, List.setIfInBounds_toArray, List.set_cons_succ, List.set_cons_zero]))
      first
        | refine wpQuiet_nil ?_
        | fail "QUIET stopped"
      intro wq hwq'
      go_wp2
      refine bodyPost_ret (v := val3 (b.toNat, l, 0)) (by simp [results, Try.results58, go_sem, val3]) rfl ?_
      exact gives rfl hwq'
    · rcases byte_high hlow with rfl | rfl | rfl
      · have hlit : (253 : UInt8).toNat = 253 := rfl
        go_wp2_with fail
        refine (get_any l 2 _).mono ?_
        rintro e w1 ⟨rfl, hb1⟩
        by_cases hl : l.length < 2
        · have hR := Lib.hid (readV_short hlow hl)
          rw [show ((2 : Int)) = ((2 : Nat) : Int) from rfl, getV_short (by omega) (by omega) hl]
          simp only [val3]
          go_wp2
          refine bodyPost_ret (v := val3 (0, [], 30)) (by simp [results, Try.results58, go_sem, val3]; try rfl) rfl ?_
          exact gives (by rw [hR.out]) hb1
        · rw [show ((2 : Int)) = ((2 : Nat) : Int) from rfl, getV_well (by omega) (by omega) hl]
          have hlt := unle_lt (l.take 2)
          rw [List.length_take, Nat.min_eq_left (by omega)] at hlt
          by_cases hlo : unle (l.take 2) < 253
          · have hR := Lib.hid (readV_long hlow hl hlo)
            obtain ⟨n, hn⟩ : ∃ n, n = unle (l.take 2) := ⟨_, rfl⟩
            rw [← hn] at hlo ⊢
            have hlo' : (n : Int) < 253 := by omega
            clear hlo hlt
            replace hn := Lib.hid hn
            simp only [val3]
            go_wp2
            refine bodyPost_ret (v := val3 (0, [], 31)) (by simp [results, Try.results58, go_sem, val3]; try rfl) rfl ?_
            exact gives (by rw [hR.out]) hb1
          · have hR := Lib.hid (readV_well hlow hl hlo)
            obtain ⟨n, hn⟩ : ∃ n, n = unle (l.take 2) := ⟨_, rfl⟩
            rw [← hn] at hlo ⊢
            have hlo' : ¬ (n : Int) < 253 := by omega
            clear hlo hlt
            replace hn := Lib.hid hn
            simp only [val3]
            go_wp2
            refine bodyPost_ret (v := val3 (n, l.drop 2, 0)) (by simp [results, Try.results58, go_sem, val3]; try rfl) rfl ?_
            exact gives (by rw [hR.out, hn.out]; rfl) hb1
      · have hlit : (254 : UInt8).toNat = 254 := rfl
        go_wp2_with fail
        refine (get_any l 4 _).mono ?_
        rintro e w1 ⟨rfl, hb1⟩
        by_cases hl : l.length < 4
        · have hR := Lib.hid (readV_short hlow hl)
          rw [show ((4 : Int)) = ((4 : Nat) : Int) from rfl, getV_short (by omega) (by omega) hl]
          simp only [val3]
          go_wp2
          refine bodyPost_ret (v := val3 (0, [], 30)) (by simp [results, Try.results58, go_sem, val3]; try rfl) rfl ?_
          exact gives (by rw [hR.out]) hb1
        · rw [show ((4 : Int)) = ((4 : Nat) : Int) from rfl, getV_well (by omega) (by omega) hl]
          have hlt := unle_lt (l.take 4)
          rw [List.length_take, Nat.min_eq_left (by omega)] at hlt
          by_cases hlo : unle (l.take 4) < 65536
          · have hR := Lib.hid (readV_long hlow hl hlo)
            obtain ⟨n, hn⟩ : ∃ n, n = unle (l.take 4) := ⟨_, rfl⟩
            rw [← hn] at hlo ⊢
            have hlo' : (n : Int) < 65536 := by omega
            clear hlo hlt
            replace hn := Lib.hid hn
            simp only [val3]
            go_wp2
            refine bodyPost_ret (v := val3 (0, [], 31)) (by simp [results, Try.results58, go_sem, val3]; try rfl) rfl ?_
            exact gives (by rw [hR.out]) hb1
          · have hR := Lib.hid (readV_well hlow hl hlo)
            obtain ⟨n, hn⟩ : ∃ n, n = unle (l.take 4) := ⟨_, rfl⟩
            rw [← hn] at hlo ⊢
            have hlo' : ¬ (n : Int) < 65536 := by omega
            clear hlo hlt
            replace hn := Lib.hid hn
            simp only [val3]
            go_wp2
            refine bodyPost_ret (v := val3 (n, l.drop 4, 0)) (by simp [results, Try.results58, go_sem, val3]; try rfl) rfl ?_
            exact gives (by rw [hR.out, hn.out]; rfl) hb1
      · have hlit : (255 : UInt8).toNat = 255 := rfl
        go_wp2_with fail
        refine (get_any l 8 _).mono ?_
        rintro e w1 ⟨rfl, hb1⟩
        by_cases hl : l.length < 8
        · have hR := Lib.hid (readV_short hlow hl)
          rw [show ((8 : Int)) = ((8 : Nat) : Int) from rfl, getV_short (by omega) (by omega) hl]
          simp only [val3]
          go_wp2
          refine bodyPost_ret (v := val3 (0, [], 30)) (by simp [results, Try.results58, go_sem, val3]; try rfl) rfl ?_
          exact gives (by rw [hR.out]) hb1
        · rw [show ((8 : Int)) = ((8 : Nat) : Int) from rfl, getV_well (by omega) (by omega) hl]
          have hlt := unle_lt (l.take 8)
          rw [List.length_take, Nat.min_eq_left (by omega)] at hlt
          by_cases hlo : unle (l.take 8) < 4294967296
          · have hR := Lib.hid (readV_long hlow hl hlo)
            obtain ⟨n, hn⟩ : ∃ n, n = unle (l.take 8) := ⟨_, rfl⟩
            rw [← hn] at hlo ⊢
            have hlo' : (n : Int) < 4294967296 := by omega
            clear hlo hlt
            replace hn := Lib.hid hn
            simp only [val3]
            go_wp2
            refine bodyPost_ret (v := val3 (0, [], 31)) (by simp [results, Try.results58, go_sem, val3]; try rfl) rfl ?_
            exact gives (by rw [hR.out]) hb1
          · have hR := Lib.hid (readV_well hlow hl hlo)
            obtain ⟨n, hn⟩ : ∃ n, n = unle (l.take 8) := ⟨_, rfl⟩
            rw [← hn] at hlo ⊢
            have hlo' : ¬ (n : Int) < 4294967296 := by omega
            clear hlo hlt
            replace hn := Lib.hid hn
            simp only [val3]
            go_wp2
            refine bodyPost_ret (v := val3 (n, l.drop 8, 0)) (by simp [results, Try.results58, go_sem, val3]; try rfl) rfl ?_
            exact gives (by rw [hR.out, hn.out]; rfl) hb1

end Go.Proofs.Ytahkiabpjfcfdaa
