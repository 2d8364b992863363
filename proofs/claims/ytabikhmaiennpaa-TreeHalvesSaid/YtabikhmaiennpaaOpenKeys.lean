/- Readings opened: keys, slices of keys, in this seat's numbers. -/
import Derived.Test.YtabikhmaiennpaaOpenKey
import Derived.Test.YtabikhmaiennpaaKeys
namespace Go.Proofs.Ytabikhmaiennpaa
set_option maxRecDepth 100000
open Go.RowKit Go.ChangeShapes Go.WideShapes Go.Deep
set_option linter.unusedVariables false

theorem rows_from {α : Type} {f : α → List Value} {n : Nat} (hf : ∀ x, (f x).length = n) (w : World) (b : Nat) : ∀ (l : List α) (o : Nat), (∀ i x, l[i]? = some x → rowOf w b (o + i * n) n = some (f x)) → rowOf w b o (l.length * n) = some (rows f l)
  | [], o, _ => by rw [rows_nil]; simp [rowOf]
  | x :: l, o, h => by
    have h0 := h 0 x rfl
    rw [Nat.zero_mul, Nat.add_zero] at h0
    have hr := rows_from hf w b l (o + n) (fun i y hy => by
      have := h (i + 1) y (by simpa using hy)
      rw [show o + n + i * n = o + (i + 1) * n from by rw [Nat.add_mul]; omega]
      exact this)
    have := rowOf_join h0 hr
    rw [rows_cons, List.length_cons, show (l.length + 1) * n = n + l.length * n from by rw [Nat.add_mul]; omega]
    exact this
theorem SlHas.sl {α : Type} {f : α → List Value} {n : Nat} (hf : ∀ x, (f x).length = n) {w : World} {a : Option Addr} {len cap : Nat} {l : List α} (h : SlHas w a len cap n f l) : SL f n w a len cap l := by
  obtain ⟨h1, h2, h3, h4, h5⟩ := h
  refine ⟨h1, h2, h3, h4, fun hne => ?_⟩
  cases l with
  | nil => exact absurd rfl hne
  | cons x l =>
    obtain ⟨b, o, e, hb, h0⟩ := h5 0 x rfl
    refine ⟨b, o, e, hb, rows_from hf w b _ o fun i y hy => ?_⟩
    obtain ⟨b', o', e', _, h'⟩ := h5 i y hy
    rw [e] at e'
    injection e' with e'
    injection e' with e1 e2
    subst e1 e2
    exact h'

section
variable {H : Type} {enc : TypeId × Value → H} {w : World} {base : Nat} {spare : Nat → Bool} {held : Bool}
theorem trod_key'' {fuel : Nat} {cs : List Value} {x : DataW H × List MemPlace} (h : DataW.trod enc Try.prog w base spare held fuel 23 cs = some x) : ∃ k : Key, cs = keyC k :=
  trod_key Try.underlying23 Try.underlying5 (by kernel_rfl) (by kernel_rfl) h
theorem open_key' {v : Value} {d : DataW H} {p : List MemPlace} {r : Reach} {b0 : Nat} (hv : Value.okWide Try.prog w r b0 23 v) (h : DataW.Trod enc Try.prog w base spare held 23 v d p) :
    ∃ k : Key, v = .agg (keyC k).toArray := by
  have hv' := hv
  simp only [Value.okWide, Try.underlying23] at hv'
  obtain ⟨cs, rfl, _⟩ := hv'
  obtain ⟨fuel, hf⟩ := h
  obtain ⟨k, hk⟩ := trod_key'' hf
  simp only [Value.cells] at hk
  exact ⟨k, by rw [← hk]⟩
theorem open_keys {v : Value} {d : DataW H} {p : List MemPlace} {r : Reach} {b0 : Nat} (hv : Value.okWide Try.prog w r b0 33 v) (h : DataW.Trod enc Try.prog w base spare held 33 v d p) :
    ∃ (a : Option Addr) (n c : Nat) (l : List Key), v = .slice a n c ∧ SL keyC 32 w a n c l := by
  have hv' := hv
  simp only [Value.okWide, Try.underlying33] at hv'
  have hs : ∃ a n c, v = .slice a n c := by
    cases v <;> simp [Cell.okWide, Cell.ok, Try.underlying33] at hv' ⊢
  obtain ⟨a, n, c, rfl⟩ := hs
  obtain ⟨fuel, hf⟩ := h
  obtain ⟨a', n', c', l, he, hl⟩ := trod_slice_rows keyC (by omega : 0 < 32) Try.underlying33 (by kernel_rfl) (fun m cs x h => trod_key'' h) hf
  simp only [Value.cells, List.cons.injEq, and_true, Value.slice.injEq] at he
  obtain ⟨rfl, rfl, rfl⟩ := he
  exact ⟨a, n, c, l, rfl, SlHas.sl keyC_length hl⟩
end
end Go.Proofs.Ytabikhmaiennpaa
