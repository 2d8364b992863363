/- Readings opened: a point. -/
import Derived.Test.YtfnlgihkofkibaaOpenTx
namespace Go.Proofs.Ytfnlgihkofkibaa
set_option maxRecDepth 100000
open Go.RowKit Go.ChangeShapes Go.WideShapes Go.Deep
set_option linter.unusedVariables false

section
variable {H : Type} {enc : TypeId × Value → H} {w : World} {base : Nat} {spare : Nat → Bool} {held : Bool}
theorem open_point {v : Value} {d : DataW H} {p : List MemPlace} {r : Reach} {b0 : Nat} (hv : Value.okWide Try.prog w r b0 36 v) (h : DataW.Trod enc Try.prog w base spare held 36 v d p) :
    ∃ x : PointV, v = .agg (pointC x).toArray := by
  obtain ⟨cs, rfl, _⟩ := okWide_struct Try.underlying36 hv
  obtain ⟨fuel, hf⟩ := h
  obtain ⟨x, hx⟩ := trod_point hf
  simp only [Value.cells] at hx
  exact ⟨x, by rw [← hx.1]⟩
end
end Go.Proofs.Ytfnlgihkofkibaa
