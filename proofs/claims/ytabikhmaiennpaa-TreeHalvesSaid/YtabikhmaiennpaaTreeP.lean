/- Trees in plain words: a part is there for each bit of how many notes there are. No walk. -/
import Derived.Test.YtabikhmaiennpaaTree4
namespace Go.Proofs.Ytabikhmaiennpaa
open Go.RowKit
set_option linter.unusedVariables false
set_option linter.unusedSimpArgs false
set_option maxRecDepth 100000

/-- No part is there where the number has no bit. -/
def CleanL (c : Nat) (l : List Key) : Prop := ∀ i, i < 32 → bitB c i = false → l[i]? = some zeroKey
theorem bitB_succ_low {c f : Nat} (h : ∀ i, i < f → bitB c i = true) : c % 2 ^ f = 2 ^ f - 1 := by
  induction f with
  | zero => simp [Nat.mod_one]
  | succ f ih =>
    have h1 := ih (fun i hi => h i (by omega))
    have h2 := h f (Nat.lt_succ_self f)
    unfold bitB at h2
    have h2 : c / 2 ^ f % 2 = 1 := of_decide_eq_true h2
    have hp : 0 < 2 ^ f := Nat.two_pow_pos f
    rw [Nat.mod_pow_succ, h1, h2, Nat.pow_succ]; omega
theorem bitB_false {c i : Nat} (h : bitB c i = false) : c / 2 ^ i % 2 = 0 := by
  unfold bitB at h
  have := of_decide_eq_false h
  omega
/-- The bits of the number that follows, where the bits below j are all set and j is not. -/
theorem succ_bits {c j : Nat} (hlow : ∀ i, i < j → bitB c i = true) (hj : bitB c j = false) :
    (∀ i, i < j → bitB (c + 1) i = false) ∧ bitB (c + 1) j = true ∧ ∀ i, j < i → bitB (c + 1) i = bitB c i := by
  have hm := bitB_succ_low hlow
  have h0 := bitB_false hj
  have hp : 0 < 2 ^ j := Nat.two_pow_pos j
  obtain ⟨q, hq⟩ : ∃ q, c = 2 ^ j * q + (2 ^ j - 1) := ⟨c / 2 ^ j, by have := Nat.div_add_mod c (2 ^ j); omega⟩
  have hq0 : q % 2 = 0 := by
    have hd : c / 2 ^ j = q := by rw [hq, Nat.mul_add_div hp, Nat.div_eq_of_lt (by omega)]; omega
    rw [hd] at h0; exact h0
  have hc1 : c + 1 = 2 ^ j * (q + 1) := by rw [hq, Nat.mul_add]; omega
  refine ⟨fun i hi => ?_, ?_, fun i hi => ?_⟩
  · unfold bitB
    rw [hc1]
    obtain ⟨k, hk⟩ : ∃ k, j = i + (k + 1) := ⟨j - i - 1, by omega⟩
    have : 2 ^ j * (q + 1) / 2 ^ i % 2 = 0 := by
      rw [hk, Nat.pow_add, Nat.mul_assoc, Nat.mul_div_cancel_left _ (Nat.two_pow_pos i), Nat.pow_succ, Nat.mul_comm (2 ^ k) 2, Nat.mul_assoc, Nat.mul_mod_right]
    rw [this]; rfl
  · unfold bitB
    rw [hc1, Nat.mul_div_cancel_left _ hp]
    have : (q + 1) % 2 = 1 := by omega
    rw [this]; rfl
  · unfold bitB
    obtain ⟨k, hk⟩ : ∃ k, i = j + (k + 1) := ⟨i - j - 1, by omega⟩
    have e1 : (c + 1) / 2 ^ i = (q + 1) / 2 / 2 ^ k := by
      rw [hk, Nat.pow_add, ← Nat.div_div_eq_div_mul, hc1, Nat.mul_div_cancel_left _ hp, Nat.pow_succ, Nat.mul_comm (2 ^ k) 2, ← Nat.div_div_eq_div_mul]
    have e2 : c / 2 ^ i = q / 2 / 2 ^ k := by
      have hd : c / 2 ^ j = q := by rw [hq, Nat.mul_add_div hp, Nat.div_eq_of_lt (by omega)]; omega
      rw [hk, Nat.pow_add, ← Nat.div_div_eq_div_mul, hd, Nat.pow_succ, Nat.mul_comm (2 ^ k) 2, ← Nat.div_div_eq_div_mul]
    rw [e1, e2, show (q + 1) / 2 = q / 2 from by omega]
theorem upL_clean {c : Nat} : ∀ (f j : Nat) (x : Key) (l : List Key), j + f = 32 → l.length = 32 → c + 1 < 4294967296 → (∀ i, i < j → bitB c i = true ∧ l[i]? = some zeroKey) → (∀ i, j ≤ i → i < 32 → bitB c i = false → l[i]? = some zeroKey) → CleanL (c + 1) (upL c f j x l)
  | 0, j, x, l, hj, hl, hc, hlow, hhi => by
    have hm := bitB_succ_low (c := c) (f := 32) (fun i hi => (hlow i (by omega)).1)
    have : c % 2 ^ 32 = c := Nat.mod_eq_of_lt (by omega)
    omega
  | f + 1, j, x, l, hj, hl, hc, hlow, hhi => by
    unfold upL
    cases hb : bitB c j with
    | true =>
      rw [if_pos rfl]
      refine upL_clean f (j + 1) _ _ (by omega) (by rw [List.length_set]; exact hl) hc (fun i hi => ?_) (fun i hi h32 hbi => ?_)
      · rw [List.getElem?_set]
        by_cases h : j = i
        · subst h
          rw [if_pos rfl, if_pos (by omega)]; exact ⟨hb, rfl⟩
        · rw [if_neg h]; exact hlow i (by omega)
      · rw [List.getElem?_set, if_neg (by omega)]; exact hhi i (by omega) h32 hbi
    | false =>
      rw [if_neg (by decide)]
      obtain ⟨s1, s2, s3⟩ := succ_bits (fun i hi => (hlow i hi).1) hb
      intro i hi hbi
      rw [List.getElem?_set]
      by_cases h : j = i
      · subst h; rw [s2] at hbi; cases hbi
      · rw [if_neg h]
        by_cases hlt : i < j
        · exact (hlow i hlt).2
        · rw [s3 i (by omega)] at hbi
          exact hhi i (by omega) hi hbi
theorem putT_l (t : TreeV) (x : Key) : (putT t x).l = upL t.count 32 0 x t.l := by unfold putT; rfl
theorem putT_clean {t : TreeV} (h : CleanL t.count t.l) (hc : t.count + 1 < 4294967296) (x : Key) : CleanL (putT t x).count (putT t x).l := by
  rw [putT_count, putT_l]
  exact upL_clean 32 0 x t.l rfl t.h hc (fun i hi => absurd hi (Nat.not_lt_zero _)) (fun i _ hi hb => h i hi hb)
theorem zero_clean : CleanL zeroTree.count zeroTree.l := fun i hi _ => by
  show (List.replicate 32 zeroKey)[i]? = _
  rw [List.getElem?_replicate, if_pos hi]
theorem puts_clean : ∀ (l : List Key) (t : TreeV), CleanL t.count t.l → t.count + l.length < 4294967296 → CleanL (putsT t l).count (putsT t l).l
  | [], t, h, _ => h
  | x :: l, t, h, hc => by
    rw [List.length_cons] at hc
    exact puts_clean l (putT t x) (putT_clean h (by omega) x) (by rw [putT_count]; omega)
/-- Two notes. -/
theorem two_notes (a b : Key) : (putsT zeroTree [a, b]).count = 2 ∧ (putsT zeroTree [a, b]).l[1]? = some (pairK a b) ∧ (putsT zeroTree [a, b]).l[0]? = some zeroKey := by
  have h0 : bitB 0 0 = false := bit_zero 0
  have h10 : bitB 1 0 = true := by unfold bitB; decide
  have h11 : bitB 1 1 = false := by unfold bitB; decide
  have e1 : (putT zeroTree a).l = (List.replicate 32 zeroKey).set 0 a := by
    rw [putT_l]
    show upL 0 32 0 a (List.replicate 32 zeroKey) = _
    rw [upL, h0, if_neg (by decide)]
  have e2 : (putsT zeroTree [a, b]).l = (((List.replicate 32 zeroKey).set 0 a).set 0 zeroKey).set 1 (pairK a b) := by
    show (putT (putT zeroTree a) b).l = _
    rw [putT_l, putT_count, e1]
    show upL 1 32 0 b _ = _
    rw [upL, h10, if_pos rfl, upL, h11, if_neg (by decide)]
    rfl
  refine ⟨putsT_count _ _, ?_, ?_⟩
  · rw [e2]; rfl
  · rw [e2]; rfl
end Go.Proofs.Ytabikhmaiennpaa
