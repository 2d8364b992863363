/- Nothing but block p has turned. No program. -/
import Derived.Test.YtahkiabpjfcfdaaHReg
namespace Go.Proofs.Ytahkiabpjfcfdaa
set_option maxRecDepth 100000
open Go.RowKit
set_option linter.unusedVariables false

/-- Of what was there only block p may have turned. -/
structure Oth (p : Nat) (W w : World) : Prop where
  all : Below 0 W w
  block : ∀ b, b < W.heap.size → b ≠ p → w.heap[b]? = W.heap[b]?
theorem Oth.size {p : Nat} {W w : World} (h : Oth p W w) : W.heap.size ≤ w.heap.size := h.all.size
theorem Oth.refl (p : Nat) (W : World) : Oth p W W := ⟨Below.refl _ _, fun _ _ _ => rfl⟩
theorem Oth.of {p : Nat} {W w : World} (h : Below W.heap.size W w) : Oth p W w := ⟨h.mono (Nat.zero_le _), fun b hb _ => h.block b hb⟩
theorem Oth.trans {p : Nat} {W w w' : World} (h : Oth p W w) (h' : Oth p w w') : Oth p W w' :=
  ⟨h.all.trans h'.all, fun b hb hn => (h'.block b (by have := h.size; omega) hn).trans (h.block b hb hn)⟩
theorem Oth.next {p : Nat} {W w w' : World} (h : Oth p W w) (h' : Below w.heap.size w w') : Oth p W w' := h.trans (Oth.of h')
/-- What block p is, is new: nothing that was there has turned. -/
theorem Oth.mono {p : Nat} {W w w' : World} (h : Oth p w w') (hW : Below W.heap.size W w) (hp : W.heap.size ≤ p) : Below W.heap.size W w' :=
  hW.trans ⟨h.all.os, h.all.tape, h.all.output, h.all.size, fun b hb => h.block b (by have := hW.size; omega) (by omega)⟩
theorem Oth.below {p B : Nat} {w w' : World} (h : Oth p w w') (hB : B ≤ w.heap.size) (hp : B ≤ p) : Below B w w' :=
  ⟨h.all.os, h.all.tape, h.all.output, h.all.size, fun b hb => h.block b (by omega) (by omega)⟩
theorem Oth.setCell {p : Nat} {W w : World} (h : Oth p W w) (o : Nat) (v : Value) : Oth p W (w.setCell ⟨p, o, none⟩ v) :=
  h.trans ⟨⟨rfl, rfl, rfl, by simp [World.setCell], fun _ hb => absurd hb (Nat.not_lt_zero _)⟩, fun b _ hn => Below.heap_setCell _ _ _ _ hn⟩
theorem Oth.drew {p : Nat} {W w : World} (h : Oth p W w) : Oth p W w.drew := h.next (Below.refl _ _).drew
theorem Oth.alloc {p : Nat} {W w : World} (h : Oth p W w) (ob : Obj) : Oth p W (w.alloc ob) := h.next ((Below.refl _ _).alloc (Nat.le_refl _) ob)
theorem keepBlock {w w' : World} (h : Below w.heap.size w w') {b : Nat} {x : Obj} (hx : w.heap[b]? = some x) : w'.heap[b]? = some x := by
  rw [h.block b (Array.getElem?_eq_some_iff.1 hx).1]; exact hx
theorem Oth.keep {p : Nat} {w w' : World} (h : Oth p w w') {b : Nat} {x : Obj} (hx : w.heap[b]? = some x) (hn : b ≠ p) : w'.heap[b]? = some x := by
  rw [h.block b (Array.getElem?_eq_some_iff.1 hx).1 hn]; exact hx
end Go.Proofs.Ytahkiabpjfcfdaa
