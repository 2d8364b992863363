/- The contracts of package codec: Put, Get, Compact. -/
import Derived.Test.YtahkiabpjfcfdaaCodec
namespace Go.Proofs.Ytahkiabpjfcfdaa
set_option maxRecDepth 100000
open Go.RowKit
set_option linter.unusedVariables false
set_option linter.unusedSimpArgs false

theorem sB_append (a b : List UInt8) : sB a ++ sB b = sB (a ++ b) := by
  apply ByteArray.ext
  simp [sB]
theorem sB_nil : (⟨#[]⟩ : ByteArray) = sB [] := rfl
theorem sB_extract (s : List UInt8) (a b : Nat) : (sB s).extract a b = sB ((s.take b).drop a) := by
  apply ByteArray.ext
  rw [ByteArray.data_extract]
  simp [sB, List.extract_eq_take_drop, List.drop_take]
theorem sB_inj {a b : List UInt8} (h : sB a = sB b) : a = b := by
  have := congrArg (fun s => s.data.toList) h
  simpa [sB] using this

def putL (n : Nat) (w : Int) : List UInt8 := if w < 1 ∨ 8 < w then [] else le w.toNat n

@[go_sem] theorem sB_size' (l : List UInt8) : (sB l).size = l.length := sB_size l
@[go_sem] theorem sB_toList (l : List UInt8) : (sB l).toList = l := ByteArray.toList_mk l
/-- '+' of a text written out and bytes. -/
theorem run_add_sB (a b : List UInt8) (h : a.length + b.length ≤ 9223372036854775807) (W : World) : (binOp .add 9 (.string (sB a)) (.string (sB b))).run Try.prog W = .ok (.string (sB (a ++ b))) W := by
  rw [← sB_append]
  exact run_string_add_sum W (sB a) (sB b) (by rw [sB_size, sB_size]; exact h)

@[go_sem ↓] theorem lit_253 : Value.string ⟨#[253]⟩ = .string (sB [253]) := rfl
@[go_sem ↓] theorem lit_254 : Value.string ⟨#[254]⟩ = .string (sB [254]) := rfl
@[go_sem ↓] theorem lit_255 : Value.string ⟨#[255]⟩ = .string (sB [255]) := rfl
theorem sB_get {s : List UInt8} {i : Nat} (h : i < s.length) : (sB s)[i]'(by rw [sB_size]; exact h) = s[i] := by
  show (sB s).data[i] = _
  simp [sB]
theorem or_byte (x b : Nat) (hb : b < 256) (hx : x < 256 ^ 7) : bits .or .u64 (IntKind.u64.wrap ((x : Int) * 256)) (IntKind.u64.wrap (b : Int)) = ((b + 256 * x : Nat) : Int) := by
  have h1 : IntKind.u64.wrap ((x : Int) * 256) = ((x * 256 : Nat) : Int) := by
    simp [IntKind.wrap, IntKind.bits, IntKind.signed]; omega
  have h2 : IntKind.u64.wrap (b : Int) = ((b : Nat) : Int) := by
    simp [IntKind.wrap, IntKind.bits, IntKind.signed]; omega
  rw [h1, h2]
  have h0 : ∀ A B : Int, bits .or .u64 A B = IntKind.u64.wrap (((BitVec.ofInt 64 A) ||| (BitVec.ofInt 64 B)).toNat : Int) := fun _ _ => rfl
  rw [h0, BitVec.ofInt_natCast, BitVec.ofInt_natCast, BitVec.toNat_or, BitVec.toNat_ofNat, BitVec.toNat_ofNat]
  rw [Nat.mod_eq_of_lt (by omega : x * 256 < 2 ^ 64), Nat.mod_eq_of_lt (by omega : b < 2 ^ 64)]
  have h3 := Nat.shiftLeft_add_eq_or_of_lt (i := 8) (b := b) (by omega : b < 2 ^ 8) x
  rw [Nat.shiftLeft_eq, show (2 : Nat) ^ 8 = 256 from rfl] at h3
  rw [← h3]
  simp [IntKind.wrap, IntKind.bits, IntKind.signed]
  omega

theorem put_any (n : Nat) (w : Int) (W : World) (hn : n < 18446744073709551616) : Calls Try.prog 46 #[.int .u64 n, .int .i64 w] W (Gives (.string (sB (putL n w))) W) := by
  go_enter Try.func46, Try.ntmps46
  by_cases h1 : w < 1
  · have hp : putL n w = [] := by unfold putL; rw [if_pos (.inl h1)]
    rw [hp]
    clear hp
    go_wp2
    go_ret
    exact gives rfl (Below.refl _ _)
  · by_cases h8 : 8 < w
    · have hp : putL n w = [] := by unfold putL; rw [if_pos (.inr h8)]
      rw [hp]
      clear hp
      go_wp2
      go_ret
      exact gives rfl (Below.refl _ _)
    · obtain ⟨m, rfl⟩ : ∃ m : Nat, w = m := ⟨w.toNat, by omega⟩
      have hp : putL n (m : Int) = le m n := by unfold putL; rw [if_neg (by omega)]; rfl
      rw [hp]
      go_wp2_with fail
      refine (little_u64 n m _ hn (by omega) (by omega)).mono ?_
      rintro e w1 ⟨rfl, hb⟩
      go_wp2
      go_ret
      exact gives rfl hb

set_option maxRecDepth 100000 in
theorem compact_any (n : Nat) (W : World) (hn : n < 18446744073709551616) : Calls Try.prog 47 #[.int .u64 n] W (Gives (.string (sB (compactL n))) W) := by
  go_enter Try.func47, Try.ntmps47
  by_cases h1 : n < 253
  · have hp : compactL n = le 1 n := by unfold compactL; rw [if_pos h1]
    rw [hp]
    go_wp2_with fail
    refine (little_u8 n 1 _ (by omega) (by omega) (by omega)).mono ?_
    rintro e w1 ⟨rfl, hb⟩
    go_wp2
    go_ret
    exact gives rfl hb
  · by_cases h2 : n < 65536
    · have hp : compactL n = 253 :: le 2 n := by unfold compactL; rw [if_neg h1, if_pos h2]
      rw [hp]
      replace hp := Lib.hid hp
      have g1 : ¬ (n : Int) < 253 := by omega
      have g2 : (n : Int) < 65536 := by omega
      have g3 : (n : Int) % 65536 = n := by omega
      clear h1 h2
      go_wp2_with fail
      refine (little_u16 n 2 _ (by omega) (by omega) (by omega)).mono ?_
      rintro e w1 ⟨rfl, hb⟩
      have hr := le_length 2 n
      clear hp
      generalize le 2 n = r at *
      go_wp2
      go_ret
      exact gives (by rw [sB_append]; rfl) hb
    · by_cases h3 : n < 4294967296
      · have hp : compactL n = 254 :: le 4 n := by unfold compactL; rw [if_neg h1, if_neg h2, if_pos h3]
        rw [hp]
        replace hp := Lib.hid hp
        have g1 : ¬ (n : Int) < 253 := by omega
        have g2 : ¬ (n : Int) < 65536 := by omega
        have g4 : (n : Int) < 4294967296 := by omega
        clear h1 h2
        go_wp2_with fail
        refine (little_u32 n 4 _ (by omega) (by omega) (by omega)).mono ?_
        rintro e w1 ⟨rfl, hb⟩
        have hr := le_length 4 n
        clear hp
        generalize le 4 n = r at *
        go_wp2
        go_ret
        exact gives (by rw [sB_append]; rfl) hb
      · have hp : compactL n = 255 :: le 8 n := by unfold compactL; rw [if_neg h1, if_neg h2, if_neg h3]
        rw [hp]
        replace hp := Lib.hid hp
        have g1 : ¬ (n : Int) < 253 := by omega
        have g2 : ¬ (n : Int) < 65536 := by omega
        have g4 : ¬ (n : Int) < 4294967296 := by omega
        clear h1 h2
        go_wp2_with fail
        refine (little_u64 n 8 _ (by omega) (by omega) (by omega)).mono ?_
        rintro e w1 ⟨rfl, hb⟩
        have hr := le_length 8 n
        clear hp
        generalize le 8 n = r at *
        go_wp2
        go_ret
        exact gives (by rw [sB_append]; rfl) hb

def getV (s : List UInt8) (w : Int) : Nat × List UInt8 × Int := if w < 1 ∨ 8 < w then (0, [], 1) else if (s.length : Int) < w then (0, [], 30) else (unle (s.take w.toNat), s.drop w.toNat, 0)
def val3 (r : Nat × List UInt8 × Int) : Value := .tuple #[.int .u64 r.1, .string (sB r.2.1), .int .i64 r.2.2]

set_option maxHeartbeats 1000000 in
theorem get_any (s : List UInt8) (w : Int) (W : World) : Calls Try.prog 56 #[.string (sB s), .int .i64 w] W (Gives (val3 (getV s w)) W) := by
  have hsz := sB_size s
  go_enter Try.func56, Try.ntmps56
  by_cases h1 : w < 1
  · have hp : getV s w = (0, [], 1) := by unfold getV; rw [if_pos (.inl h1)]
    rw [hp]
    clear hp
    go_wp2
    refine bodyPost_ret (v := val3 (0, [], 1)) (by simp [results, Try.results56, go_sem, val3]; try rfl) rfl ?_
    exact gives rfl (Below.refl _ _)
  · by_cases h8 : 8 < w
    · have hp : getV s w = (0, [], 1) := by unfold getV; rw [if_pos (.inr h8)]
      rw [hp]
      clear hp
      go_wp2
      refine bodyPost_ret (v := val3 (0, [], 1)) (by simp [results, Try.results56, go_sem, val3]; try rfl) rfl ?_
      exact gives rfl (Below.refl _ _)
    · obtain ⟨m, rfl⟩ : ∃ m : Nat, w = m := ⟨w.toNat, by omega⟩
      by_cases hl : (s.length : Int) < m
      · have hp : getV s m = (0, [], 30) := by unfold getV; rw [if_neg (by omega), if_pos hl]
        rw [hp]
        clear hp
        go_wp2
        refine bodyPost_ret (v := val3 (0, [], 30)) (by simp [results, Try.results56, go_sem, val3]; try rfl) rfl ?_
        exact gives rfl (Below.refl _ _)
      · have hp : getV s m = (unle (s.take m), s.drop m, 0) := by unfold getV; rw [if_neg (by omega), if_neg hl]; rfl
        rw [hp]
        clear hp
        go_wp2_with fail
        go_loopw [7, 8] (fun v i wr => wr = W ∧ ∃ j : Nat, j ≤ m ∧ i = .int .i64 ((j : Int) - 1) ∧ v = .int .u64 (unle ((s.take m).drop j))) (fun _ i _ => (intOf i + 1).toNat)
        case atStart => exact ⟨rfl, m, Nat.le_refl _, rfl, by rw [List.drop_eq_nil_of_le (by simp; omega)]; rfl⟩
        case round =>
          obtain ⟨rfl, j, hj, rfl, rfl⟩ := hrel
          by_cases hlt : 1 ≤ j
          · obtain ⟨i, rfl⟩ : ∃ i, j = i + 1 := ⟨j - 1, by omega⟩
            go_wp2_with fail
            have hil : i < s.length := by omega
            have hd : (s.take m).drop i = s[i] :: (s.take m).drop (i + 1) := by rw [List.drop_eq_getElem_cons (by simp; omega)]; simp
            have hlt := unle_lt ((s.take m).drop (i + 1))
            have hlt2 : 256 ^ ((s.take m).drop (i + 1)).length ≤ 256 ^ 7 := Nat.pow_le_pow_right (by omega) (by simp; omega)
            refine ⟨⟨trivial, i, by omega, rfl, ?_⟩, by simp [intOf]⟩
            rw [hd, unle, sB_get hil, or_byte _ _ s[i].toNat_lt (by omega)]
          · obtain rfl : j = 0 := by omega
            go_wp2_with fail
            (refine region_since (by kernel_rfl) (by kernel_rfl) ?_)
            repeat (first
              | (refine wpQuiet_goff rfl rfl rfl rfl ?_; simp only [Act.put, List.setIfInBounds_toArray, List.set_cons_succ, List.set_cons_zero])
              | (first
                   | refine wpQuiet_free rfl ?_
                   | refine wpQuiet_gon rfl rfl rfl rfl ?_
                 apply Exists.intro
                 refine ⟨fun w' hw' => ?_, ?_⟩
                 · (obtain ⟨hc', hr', hs'⟩ := since_facts hw'
                    unfold Oper.quietAt
                    go_simp
                    try go_bits
                    first
                      | exact quietUpon_value rfl
                      | exact rfl
                      | (apply quietUpon_enter
                         first
                         | fail))
                 simp only [Act.put, List.setIfInBounds_toArray, List.set_cons_succ, List.set_cons_zero]))
            first
              | refine wpQuiet_nil ?_
              | fail "QUIET stopped"
            intro wq hwq'
            go_wp2
            refine bodyPost_ret (v := val3 (unle (s.take m), s.drop m, 0)) (by simp [results, Try.results56, go_sem, val3, sB_extract]) rfl ?_
            exact gives rfl hwq'
theorem putL_nat (n w : Nat) (h : 1 ≤ w) (h8 : w ≤ 8) : putL n (w : Int) = le w n := by unfold putL; rw [if_neg (by omega)]; rfl

end Go.Proofs.Ytahkiabpjfcfdaa
