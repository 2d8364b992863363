/- Layer 5: what Encode gives, in plain words. No walk. -/
import Derived.Test.YtahkiabpjfcfdaaEnc3
namespace Go.Proofs.Ytahkiabpjfcfdaa
open Go.RowKit
set_option linter.unusedVariables false
set_option linter.unusedSimpArgs false
set_option maxRecDepth 100000

/-! ### What Encode gives -/
theorem encV_cases (d : TxD) : (manyB d = true ∧ encV d = ([], 51)) ∨ (manyB d = false ∧ d.nulls.length = 0 ∧ ¬ d.anchor = zeroKey ∧ encV d = ([], 1)) ∨ (manyB d = false ∧ ¬ (d.nulls.length = 0 ∧ ¬ d.anchor = zeroKey) ∧ encV d = (encB d, 0)) := by
  cases hm : manyB d
  · by_cases hz : d.nulls.length = 0 ∧ ¬ d.anchor = zeroKey
    · exact .inr (.inl ⟨rfl, hz.1, hz.2, by unfold encV; rw [hm, if_neg (by simp), if_pos hz]⟩)
    · exact .inr (.inr ⟨rfl, hz, by unfold encV; rw [hm, if_neg (by simp), if_neg hz]⟩)
  · exact .inl ⟨rfl, by unfold encV; rw [hm, if_pos rfl]⟩
theorem manyB_false {d : TxD} (h : manyB d = false) : d.ins.length ≤ 40 ∧ d.outs.length ≤ 40 ∧ d.nulls.length ≤ 40 ∧ d.notes.length ≤ 40 := by
  unfold manyB at h
  simp only [Bool.or_eq_false_iff, decide_eq_false_iff_not] at h
  omega
theorem flat_length {α : Type} (f : α → List UInt8) (m : Nat) (hf : ∀ x, (f x).length = m) : ∀ (l : List α) (i : Nat), (catF (fun _ x => f x) i l).length = l.length * m
  | [], _ => by simp [catF]
  | x :: l, i => by rw [catF, List.length_append, hf, flat_length f m hf l, List.length_cons, Nat.add_mul]; omega
theorem compactL_one {n : Nat} (h : n ≤ 40) : (compactL n).length = 1 := by rw [compactL_length, if_pos (by omega)]
theorem nulls_length (a : Key) : ∀ (l : List Key), (catF (fun i k => (if i = 0 then a.val else []) ++ k.val) 0 l).length = l.length * 32 + (if l.length = 0 then 0 else 32) := by
  intro l
  cases l with
  | nil => rfl
  | cons k l =>
    have h : ∀ (l : List Key) (i : Nat), (catF (fun i (k : Key) => (if i = 0 then a.val else []) ++ k.val) (i + 1) l).length = l.length * 32 := by
      intro l
      induction l with
      | nil => intro i; rfl
      | cons x l ih => intro i; rw [catF, List.length_append, if_neg (by omega), List.nil_append, x.property, ih, List.length_cons]; omega
    rw [catF, List.length_append, if_pos rfl, List.length_append, a.property, k.property, h, List.length_cons, if_neg (by omega)]; omega
theorem encB_length {d : TxD} (h : manyB d = false) : (encB d).length = 16 + 36 * d.ins.length + 40 * d.outs.length + 32 * d.nulls.length + 32 * d.notes.length + (if d.nulls.length = 0 then 0 else 32) := by
  obtain ⟨h1, h2, h3, h4⟩ := manyB_false h
  unfold encB
  simp only [List.length_append, le_length, compactL_one h1, compactL_one h2, compactL_one h3, compactL_one h4]
  rw [flat_length ptB 36 ptB_length, flat_length outB 40 outB_length, flat_length (fun k : Key => k.val) 32 (fun k => k.property)]
  have := nulls_length d.anchor d.nulls
  split at this <;> split <;> omega

end Go.Proofs.Ytahkiabpjfcfdaa
