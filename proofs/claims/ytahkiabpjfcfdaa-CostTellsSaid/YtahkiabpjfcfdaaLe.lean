/- Bytes of a number, the lowest one first, and back. No program. -/
import Derived.Test.YtahkiabpjfcfdaaMem
namespace Go.Proofs.Ytahkiabpjfcfdaa
set_option maxRecDepth 100000
set_option linter.unusedVariables false

/-- The bytes of n, so many. -/
def le : Nat → Nat → List UInt8
  | 0, _ => []
  | w + 1, n => UInt8.ofNat n :: le w (n / 256)
/-- The number of bytes. -/
def unle : List UInt8 → Nat
  | [] => 0
  | b :: l => b.toNat + 256 * unle l
theorem le_length : ∀ w n, (le w n).length = w
  | 0, _ => rfl
  | w + 1, n => by simp [le, le_length w]
theorem unle_le : ∀ w n, unle (le w n) = n % 256 ^ w
  | 0, n => by simp [le, unle, Nat.mod_one]
  | w + 1, n => by
    have h1 : (UInt8.ofNat n).toNat = n % 256 := by simp
    rw [le, unle, unle_le w, h1, Nat.pow_succ, Nat.mul_comm (256 ^ w), Nat.mod_mul]
theorem unle_lt : ∀ l, unle l < 256 ^ l.length
  | [] => by simp [unle]
  | b :: l => by
    have h1 := unle_lt l
    have h2 : b.toNat < 256 := b.toNat_lt
    rw [unle, List.length_cons, Nat.pow_succ]
    omega
theorem le_unle : ∀ l, le l.length (unle l) = l
  | [] => rfl
  | b :: l => by
    have h2 : b.toNat < 256 := b.toNat_lt
    rw [List.length_cons, le, unle, show (b.toNat + 256 * unle l) / 256 = unle l from by omega, le_unle l]
    congr 1
    apply UInt8.toNat_inj.1
    simp
    try omega
theorem le_get : ∀ w n i, i < w → (le w n)[i]? = some (UInt8.ofNat (n / 256 ^ i))
  | 0, n, i, h => by omega
  | w + 1, n, 0, h => by simp [le]
  | w + 1, n, i + 1, h => by
    rw [le, List.getElem?_cons_succ, le_get w _ i (by omega), Nat.pow_succ, Nat.mul_comm (256 ^ i), Nat.div_div_eq_div_mul]
theorem le_mod : ∀ w n, le w (n % 256 ^ w) = le w n := fun w n => by
  have h := le_unle (le w n)
  rw [le_length, unle_le] at h
  exact h
theorem le_append : ∀ a b n, le (a + b) n = le a n ++ le b (n / 256 ^ a)
  | 0, b, n => by simp [le]
  | a + 1, b, n => by
    rw [show a + 1 + b = (a + b) + 1 from by omega, le, le, le_append a b, List.cons_append, Nat.pow_succ, Nat.mul_comm (256 ^ a), Nat.div_div_eq_div_mul]
theorem le_succ (w n : Nat) : le (w + 1) n = le w n ++ [UInt8.ofNat (n / 256 ^ w)] := by
  rw [le_append w 1 n]; rfl
theorem le_take : ∀ i w n, i ≤ w → (le w n).take i = le i n
  | 0, w, n, h => by simp [le]
  | i + 1, 0, n, h => by omega
  | i + 1, w + 1, n, h => by rw [le, List.take_succ_cons, le_take i w _ (by omega)]; rfl
theorem le_inj {w a b : Nat} (ha : a < 256 ^ w) (hb : b < 256 ^ w) (h : le w a = le w b) : a = b := by
  have := congrArg unle h
  rw [unle_le, unle_le, Nat.mod_eq_of_lt ha, Nat.mod_eq_of_lt hb] at this
  exact this

/-- A number in short. -/
def compactL (n : Nat) : List UInt8 := if n < 253 then le 1 n else if n < 65536 then 253 :: le 2 n else if n < 4294967296 then 254 :: le 4 n else 255 :: le 8 n
theorem compactL_length (n : Nat) : (compactL n).length = if n < 253 then 1 else if n < 65536 then 3 else if n < 4294967296 then 5 else 9 := by
  unfold compactL
  split
  · simp [le_length]
  · split
    · simp [le_length]
    · split <;> simp [le_length]

/-- What is read of a width: the number, what is behind, the errno (0, 10 too short). -/
def getL (s : List UInt8) (w : Nat) : Nat × List UInt8 × Bool := if s.length < w then (0, [], false) else (unle (s.take w), s.drop w, true)
def widthOf (b : UInt8) : Nat := if b = 253 then 2 else if b = 254 then 4 else 8
def leastOf (b : UInt8) : Nat := if b = 253 then 253 else if b = 254 then 65536 else 4294967296
/-- How it goes: 0 well, 1 too short, 2 too long. -/
def readL : List UInt8 → Nat × List UInt8 × Nat
  | [] => (0, [], 1)
  | b :: l => if b.toNat < 253 then (b.toNat, l, 0) else if l.length < widthOf b then (0, [], 1) else if unle (l.take (widthOf b)) < leastOf b then (0, [], 2) else (unle (l.take (widthOf b)), l.drop (widthOf b), 0)

theorem byte_high {b : UInt8} (h : ¬ b.toNat < 253) : b = 253 ∨ b = 254 ∨ b = 255 := by
  have : b.toNat < 256 := b.toNat_lt
  have h3 : b.toNat = 253 ∨ b.toNat = 254 ∨ b.toNat = 255 := by omega
  rcases h3 with h | h | h
  · left; exact UInt8.toNat_inj.1 (by rw [h]; rfl)
  · right; left; exact UInt8.toNat_inj.1 (by rw [h]; rfl)
  · right; right; exact UInt8.toNat_inj.1 (by rw [h]; rfl)

/-- What was put in short is read. -/
theorem readL_compactL {n : Nat} (hn : n < 18446744073709551616) (r : List UInt8) : readL (compactL n ++ r) = (n, r, 0) := by
  have hl := le_length
  unfold compactL
  split
  · rename_i h
    show readL (UInt8.ofNat n :: r) = _
    have : (UInt8.ofNat n).toNat = n := by simp; omega
    rw [readL, this, if_pos h]
  · split
    · rename_i h1 h2
      rw [List.cons_append, readL, if_neg (by decide), if_neg (by simp [widthOf, hl]), if_neg]
      · show (unle ((le 2 n ++ r).take 2), (le 2 n ++ r).drop 2, 0) = _
        rw [List.take_left' (hl 2 n), List.drop_left' (hl 2 n), unle_le, Nat.mod_eq_of_lt (by omega)]
      · show ¬ unle ((le 2 n ++ r).take 2) < 253
        rw [List.take_left' (hl 2 n), unle_le, Nat.mod_eq_of_lt (by omega)]
        omega
    · split
      · rename_i h1 h2 h3
        rw [List.cons_append, readL, if_neg (by decide), if_neg (by simp [widthOf, hl]), if_neg]
        · show (unle ((le 4 n ++ r).take 4), (le 4 n ++ r).drop 4, 0) = _
          rw [List.take_left' (hl 4 n), List.drop_left' (hl 4 n), unle_le, Nat.mod_eq_of_lt (by omega)]
        · show ¬ unle ((le 4 n ++ r).take 4) < 65536
          rw [List.take_left' (hl 4 n), unle_le, Nat.mod_eq_of_lt (by omega)]
          omega
      · rename_i h1 h2 h3
        rw [List.cons_append, readL, if_neg (by decide), if_neg (by simp [widthOf, hl]), if_neg]
        · show (unle ((le 8 n ++ r).take 8), (le 8 n ++ r).drop 8, 0) = _
          rw [List.take_left' (hl 8 n), List.drop_left' (hl 8 n), unle_le, Nat.mod_eq_of_lt (by omega)]
        · show ¬ unle ((le 8 n ++ r).take 8) < 4294967296
          rw [List.take_left' (hl 8 n), unle_le, Nat.mod_eq_of_lt (by omega)]
          omega
/-- What is read is what was put in short, and what is behind. -/
theorem compactL_readL {s r : List UInt8} {n : Nat} (h : readL s = (n, r, 0)) : compactL n ++ r = s ∧ n < 18446744073709551616 := by
  cases s with
  | nil => cases h
  | cons b l =>
    have hb : b.toNat < 256 := b.toNat_lt
    rw [readL] at h
    split at h
    · rename_i hlt
      injection h with h1 h2
      injection h2 with h2 h3
      subst h1 h2
      refine ⟨?_, by omega⟩
      unfold compactL
      rw [if_pos hlt]
      show UInt8.ofNat b.toNat :: l = b :: l
      simp
    · rename_i hge
      split at h
      · cases h
      · rename_i hlen
        split at h
        · cases h
        · rename_i hlo
          injection h with h1 h2
          injection h2 with h2 h3
          subst h1 h2
          have ht : ∀ w, w ≤ l.length → le w (unle (l.take w)) ++ l.drop w = l := by
            intro w hw
            have h := le_unle (l.take w)
            rw [List.length_take, Nat.min_eq_left hw] at h
            rw [h, List.take_append_drop]
          have hlt2 := fun w (hw : w ≤ l.length) => by have := unle_lt (l.take w); rw [List.length_take, Nat.min_eq_left hw] at this; exact this
          rcases byte_high hge with rfl | rfl | rfl
          · have hw : 2 ≤ l.length := by simp [widthOf] at hlen; omega
            have h2 := hlt2 2 hw
            have h1 : ¬ unle (l.take 2) < 253 := hlo
            show compactL (unle (l.take 2)) ++ l.drop 2 = _ ∧ unle (l.take 2) < _
            refine ⟨?_, by omega⟩
            unfold compactL
            rw [if_neg h1, if_pos (by omega), List.cons_append, ht 2 hw]
          · have hw : 4 ≤ l.length := by simp [widthOf] at hlen; omega
            have h2 := hlt2 4 hw
            have h1 : ¬ unle (l.take 4) < 65536 := hlo
            show compactL (unle (l.take 4)) ++ l.drop 4 = _ ∧ unle (l.take 4) < _
            refine ⟨?_, by omega⟩
            unfold compactL
            rw [if_neg (by omega), if_neg (by omega), if_pos (by omega), List.cons_append, ht 4 hw]
          · have hw : 8 ≤ l.length := by simp [widthOf] at hlen; omega
            have h2 := hlt2 8 hw
            have h1 : ¬ unle (l.take 8) < 4294967296 := hlo
            show compactL (unle (l.take 8)) ++ l.drop 8 = _ ∧ unle (l.take 8) < _
            refine ⟨?_, by omega⟩
            unfold compactL
            rw [if_neg (by omega), if_neg (by omega), if_neg (by omega), List.cons_append, ht 8 hw]
/-- The beginnings of a number in short are too short. -/
theorem readL_short {n i : Nat} (hi : i < (compactL n).length) : readL ((compactL n).take i) = (0, [], 1) := by
  cases i with
  | zero => rfl
  | succ i =>
    rw [compactL_length] at hi
    unfold compactL
    split
    · rename_i h; rw [if_pos h] at hi; omega
    · rename_i h1
      rw [if_neg h1] at hi
      split
      · rename_i h2
        rw [if_pos h2] at hi
        rw [List.take_succ_cons, readL, if_neg (by decide), if_pos]
        rw [List.length_take, le_length]
        show min i 2 < 2
        omega
      · rename_i h2
        rw [if_neg h2] at hi
        split
        · rename_i h3
          rw [if_pos h3] at hi
          rw [List.take_succ_cons, readL, if_neg (by decide), if_pos]
          rw [List.length_take, le_length]
          show min i 4 < 4
          omega
        · rename_i h3
          rw [if_neg h3] at hi
          rw [List.take_succ_cons, readL, if_neg (by decide), if_pos]
          rw [List.length_take, le_length]
          show min i 8 < 8
          omega

end Go.Proofs.Ytahkiabpjfcfdaa
