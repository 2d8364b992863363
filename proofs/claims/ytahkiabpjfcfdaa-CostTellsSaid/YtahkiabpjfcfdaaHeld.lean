/- What a law's walk holds of its own variables, from call to call. No program. -/
import Derived.Test.YtahkiabpjfcfdaaMem5
namespace Go.Proofs.Ytahkiabpjfcfdaa
set_option maxRecDepth 100000
open Go.RowKit
set_option linter.unusedVariables false

/-- Cells of variables, by their blocks. -/
def CF (w : World) : List (Nat × Value) → Prop
  | [] => True
  | (b, v) :: l => (b < w.heap.size ∧ w.cell? ⟨b, 0, none⟩ = some v ∧ w.frozen? ⟨b, 0, none⟩ = false) ∧ CF w l
/-- Rows of variables, by their blocks. -/
def RF (w : World) (n : Nat) : List (Nat × List Value) → Prop
  | [] => True
  | (b, v) :: l => (b < w.heap.size ∧ rowOf w b 0 n = some v) ∧ RF w n l
/-- .. what lies elsewhere: any predicate of worlds that outlives calls. -/
structure Held (W w : World) (n : Nat) (cs : List (Nat × Value)) (rs : List (Nat × List Value)) : Prop where
  below : Below W.heap.size W w
  cells : CF w cs
  rows : RF w n rs

section
variable {W w w' : World} {n : Nat} {cs : List (Nat × Value)} {rs : List (Nat × List Value)}
theorem CF.below (hb : Below w.heap.size w w') : ∀ {cs : List (Nat × Value)}, CF w cs → CF w' cs
  | [], _ => trivial
  | (b, v) :: l, h => ⟨⟨Nat.lt_of_lt_of_le h.1.1 hb.size, by rw [hb.cell (p := ⟨b, 0, none⟩) h.1.1]; exact h.1.2.1, by rw [hb.frozen (p := ⟨b, 0, none⟩) h.1.1]; exact h.1.2.2⟩, CF.below hb h.2⟩
theorem RF.below (hb : Below w.heap.size w w') : ∀ {rs : List (Nat × List Value)}, RF w n rs → RF w' n rs
  | [], _ => trivial
  | (b, v) :: l, h => ⟨⟨Nat.lt_of_lt_of_le h.1.1 hb.size, by rw [rowOf_congr (hb.block b h.1.1)]; exact h.1.2⟩, RF.below hb h.2⟩
theorem Held.to (h : Held W w n cs rs) (hb : Below w.heap.size w w') : Held W w' n cs rs := ⟨Below.of hb h.below.size h.below, h.cells.below hb, h.rows.below hb⟩
theorem Held.alloc (h : Held W w n cs rs) (ob : Obj) : Held W (w.alloc ob) n cs rs := h.to ((Below.refl _ _).alloc (Nat.le_refl _) ob)
theorem Held.cell (h : Held W w n cs rs) (v : Value) (t : TypeId) : Held W (w.alloc (.cells #[v] t)) n ((w.heap.size, v) :: cs) rs := by
  have h' := h.alloc (.cells #[v] t)
  exact ⟨h'.below, ⟨⟨by simp, by simp [go_sem], by simp [go_sem]⟩, h'.cells⟩, h'.rows⟩
theorem Held.row (h : Held W w n cs rs) (r : List Value) (t : TypeId) (hr : r.length = n) : Held W (w.alloc (.cells r.toArray t)) n cs ((w.heap.size, r) :: rs) := by
  have h' := h.alloc (.cells r.toArray t)
  exact ⟨h'.below, h'.cells, ⟨⟨by simp, rowOf_alloc_new _ _ _ _ _ _ rfl hr⟩, h'.rows⟩⟩
theorem Held.start (W : World) (n : Nat) : Held W W n [] [] := ⟨Below.refl _ _, trivial, trivial⟩
theorem Held.dropRow {r : Nat × List Value} (h : Held W w n cs (r :: rs)) : Held W w n cs rs := ⟨h.below, h.cells, h.rows.2⟩
theorem Held.dropCell {r : Nat × Value} (h : Held W w n (r :: cs) rs) : Held W w n cs rs := ⟨h.below, h.cells.2, h.rows⟩
theorem Held.size (h : Held W w n cs rs) : W.heap.size ≤ w.heap.size := h.below.size
end
/-- The same as a structure: nothing unfolds it. -/
structure SinceP (W w : World) : Prop where
  out : Below W.heap.size W w
theorem SinceP.next {W w w' : World} (h : SinceP W w) (hb : Below w.heap.size w w') : SinceP W w' := ⟨Below.of hb h.out.size h.out⟩
theorem SinceP.alloc {W w : World} (h : SinceP W w) (ob : Obj) : SinceP W (w.alloc ob) := ⟨h.out.alloc h.out.size ob⟩
theorem SinceP.drew {W w : World} (h : SinceP W w) : SinceP W w.drew := ⟨h.out.drew⟩
theorem SinceP.refl (W : World) : SinceP W W := ⟨Below.refl _ _⟩
theorem since_next {W w w' : World} (h : Below W.heap.size W w) (hb : Below w.heap.size w w') : Below W.heap.size W w' := Below.of hb h.size h
theorem since_alloc {W w : World} (h : Below W.heap.size W w) (ob : Obj) : Below W.heap.size W (w.alloc ob) := h.alloc h.size ob
theorem since_drew {W w : World} (h : Below W.heap.size W w) : Below W.heap.size W w.drew := h.drew
theorem rangeAt_of_rowOf {w : World} {b o n : Nat} {cs : List Value} (h : rowOf w b o n = some cs) : w.rangeAt b o cs := (rowOf_some.1 h).2
theorem rowOf_of_rangeAt {w : World} {b o n : Nat} {cs : List Value} (h : w.rangeAt b o cs) (hl : cs.length = n) : rowOf w b o n = some cs := rowOf_some.2 ⟨hl, h⟩

end Go.Proofs.Ytahkiabpjfcfdaa
