/- Readings opened: keys, in this seat's numbers. -/
import Derived.Test.YtajoeleepdnifaaOpenKey
import Derived.Test.YtajoeleepdnifaaKey
namespace Go.Proofs.Ytajoeleepdnifaa
set_option maxRecDepth 100000
open Go.RowKit Go.ChangeShapes Go.WideShapes Go.Deep
set_option linter.unusedVariables false

section
variable {H : Type} {enc : TypeId × Value → H} {w : World} {base : Nat} {spare : Nat → Bool} {held : Bool}
theorem trod_key'' {fuel : Nat} {cs : List Value} {x : DataW H × List MemPlace} (h : DataW.trod enc Try.prog w base spare held fuel 35 cs = some x) : ∃ k : Key, cs = keyC k :=
  trod_key Try.underlying35 Try.underlying5 (by kernel_rfl) (by kernel_rfl) h
theorem open_key' {v : Value} {d : DataW H} {p : List MemPlace} {r : Reach} {b0 : Nat} (hv : Value.okWide Try.prog w r b0 35 v) (h : DataW.Trod enc Try.prog w base spare held 35 v d p) :
    ∃ k : Key, v = .agg (keyC k).toArray := by
  have hv' := hv
  simp only [Value.okWide, Try.underlying35] at hv'
  obtain ⟨cs, rfl, _⟩ := hv'
  obtain ⟨fuel, hf⟩ := h
  obtain ⟨k, hk⟩ := trod_key'' hf
  simp only [Value.cells] at hk
  exact ⟨k, by rw [← hk]⟩
end
end Go.Proofs.Ytajoeleepdnifaa
