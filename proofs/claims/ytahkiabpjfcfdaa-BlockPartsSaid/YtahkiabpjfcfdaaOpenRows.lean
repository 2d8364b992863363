/- Readings of rows joined. No program. -/
import Derived.Test.YtahkiabpjfcfdaaOpenKey
import Derived.Test.YtahkiabpjfcfdaaBase
namespace Go.Proofs.Ytahkiabpjfcfdaa
set_option maxRecDepth 100000
open Go.RowKit Go.ChangeShapes Go.WideShapes Go.Deep
set_option linter.unusedVariables false

theorem rows_from {α : Type} {f : α → List Value} {n : Nat} (hf : ∀ x, (f x).length = n) (w : World) (b : Nat) : ∀ (l : List α) (o : Nat), (∀ i x, l[i]? = some x → rowOf w b (o + i * n) n = some (f x)) → rowOf w b o (l.length * n) = some (rows f l)
  | [], o, _ => by rw [rows_nil]; simp [rowOf]
  | x :: l, o, h => by
    have h0 := h 0 x rfl
    rw [Nat.zero_mul, Nat.add_zero] at h0
    have hr := rows_from hf w b l (o + n) (fun i y hy => by
      have := h (i + 1) y (by simpa using hy)
      rw [show o + n + i * n = o + (i + 1) * n from by rw [Nat.add_mul]; omega]
      exact this)
    have := rowOf_join h0 hr
    rw [rows_cons, List.length_cons, show (l.length + 1) * n = n + l.length * n from by rw [Nat.add_mul]; omega]
    exact this
theorem SlHas.sl {α : Type} {f : α → List Value} {n : Nat} (hf : ∀ x, (f x).length = n) {w : World} {a : Option Addr} {len cap : Nat} {l : List α} (h : SlHas w a len cap n f l) : SL f n w a len cap l := by
  obtain ⟨h1, h2, h3, h4, h5⟩ := h
  refine ⟨h1, h2, h3, h4, fun hne => ?_⟩
  cases l with
  | nil => exact absurd rfl hne
  | cons x l =>
    obtain ⟨b, o, e, hb, h0⟩ := h5 0 x rfl
    refine ⟨b, o, e, hb, rows_from hf w b _ o fun i y hy => ?_⟩
    obtain ⟨b', o', e', _, h'⟩ := h5 i y hy
    rw [e] at e'
    injection e' with e'
    injection e' with e1 e2
    subst e1 e2
    exact h'

end Go.Proofs.Ytahkiabpjfcfdaa
