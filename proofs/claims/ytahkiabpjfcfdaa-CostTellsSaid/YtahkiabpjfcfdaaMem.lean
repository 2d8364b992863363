/- Words on rows of cells: a row read whole, a new block, what a later world keeps. No program. -/
import Derived.WalkKit
import Derived.Deep.MidRow
import Derived.Laws.Rows
namespace Go.Proofs.Ytahkiabpjfcfdaa
set_option maxRecDepth 100000
open Go.RowKit

/-- The n cells of block b from o on, if they are all there. -/
def rowOf (w : World) (b o : Nat) : Nat → Option (List Value)
  | 0 => some []
  | n + 1 => (w.cell? ⟨b, o, none⟩).bind fun v => (rowOf w b (o + 1) n).map (v :: ·)

theorem rowOf_some {w : World} {b : Nat} : ∀ {n o : Nat} {cs : List Value}, rowOf w b o n = some cs ↔ cs.length = n ∧ w.rangeAt b o cs
  | 0, o, cs => by
    simp only [rowOf, Option.some.injEq]
    constructor
    · rintro rfl; exact ⟨rfl, fun j v h => by simp at h⟩
    · rintro ⟨h, _⟩; exact (List.length_eq_zero_iff.1 h).symm
  | n + 1, o, cs => by
    simp only [rowOf, Option.bind_eq_some_iff, Option.map_eq_some_iff]
    constructor
    · rintro ⟨v, hv, l, hl, rfl⟩
      obtain ⟨h1, h2⟩ := rowOf_some.1 hl
      refine ⟨by simp [h1], fun j u h => ?_⟩
      cases j with
      | zero => simp only [List.getElem?_cons_zero, Option.some.injEq] at h; subst h; exact hv
      | succ j => simp only [List.getElem?_cons_succ] at h; have := h2 j u h; rwa [show o + 1 + j = o + (j + 1) from by omega] at this
    · rintro ⟨h1, h2⟩
      cases cs with
      | nil => simp at h1
      | cons v l =>
        refine ⟨v, h2 0 v rfl, l, rowOf_some.2 ⟨by simpa using h1, fun j u h => ?_⟩, rfl⟩
        have := h2 (j + 1) u (by simpa using h)
        rwa [show o + (j + 1) = o + 1 + j from by omega] at this

/-- What a load of a row comes to, told by the pointer's value. -/
def slowLoad (P : Program) (ty : TypeId) (v : Value) (w : World) : Result Next := (do pure (.value (← Instr.loadAt ty v)) : Sem Next).run P w
def loadTo (P : Program) (ty : TypeId) (n : Nat) (w : World) (v : Value) : Result Next :=
  match v with
  | .pointer (some ⟨b, o, none⟩) => match rowOf w b o n with
    | some cs => .ok (.value (.agg cs.toArray)) w
    | none => slowLoad P ty v w
  | _ => slowLoad P ty v w
def loadGot (slow : Result Next) (w : World) : Option (List Value) → Result Next
  | some cs => .ok (.value (.agg cs.toArray)) w
  | none => slow
@[go_sem] theorem loadGot_some (slow : Result Next) (w : World) (cs : List Value) : loadGot slow w (some cs) = .ok (.value (.agg cs.toArray)) w := rfl
@[go_sem] theorem loadTo_ptr (P : Program) (ty : TypeId) (n : Nat) (w : World) (b o : Nat) :
    loadTo P ty n w (.pointer (some ⟨b, o, none⟩)) = loadGot (slowLoad P ty (.pointer (some ⟨b, o, none⟩)) w) w (rowOf w b o n) := by
  simp only [loadTo]; cases rowOf w b o n <;> rfl

theorem exec_load {P : Program} {ty n : Nat} {d : TypeDesc} (hu : P.underlying ty = some d) (hd : d.isRow = true) (hi : (P.info? ty).map (·.size) = some n)
    (ρ : Operand → Value) (dst : Option Tmp) (x : Operand) (t : TypeId) (pos : String) (after : Array Edge) (guard : Option (Nat × Bool)) (w : World) :
    (execOp ρ ⟨dst, .load ty x, t, pos, after, guard⟩).run P w = loadTo P ty n w (ρ x) := by
  have hslow : (execOp ρ ⟨dst, .load ty x, t, pos, after, guard⟩).run P w = slowLoad P ty (ρ x) w := rfl
  unfold loadTo
  split
  · rename_i b o hv
    split
    · rename_i cs h
      obtain ⟨h1, h2⟩ := rowOf_some.1 h
      rw [hslow, hv]
      simp only [slowLoad, Sem.run_bind, run_loadAt_mid w b o ty cs d h2 hu hd (by rw [hi, h1])]
      rfl
    · rw [hslow]
  · exact hslow

theorem rowOf_drew (w : World) (b o n : Nat) : rowOf w.drew b o n = rowOf w b o n := by
  induction n generalizing o with
  | zero => rfl
  | succ n ih => simp only [rowOf, ih]; rfl

theorem rowOf_congr {w w' : World} {b : Nat} (h : w'.heap[b]? = w.heap[b]?) (o n : Nat) : rowOf w' b o n = rowOf w b o n := by
  induction n generalizing o with
  | zero => rfl
  | succ n ih => simp only [rowOf, ih, World.cell?, h]

theorem rowOf_alloc_old (w : World) (ob : Obj) (b o n : Nat) (h : b < w.heap.size) : rowOf (w.alloc ob) b o n = rowOf w b o n :=
  rowOf_congr (Below.heap_alloc w ob b h) o n

theorem rowOf_block {w : World} {b : Nat} {C : Array Value} {t : TypeId} {fr : Nat × Nat} (hb : w.heap[b]? = some (.cells C t fr)) (o n : Nat) (h : o + n ≤ C.size) :
    rowOf w b o n = some (C.extract o (o + n)).toList :=
  rowOf_some.2 ⟨by simp; omega, World.rangeAt_of_block hb o n⟩

/-- A block that has just been laid, read whole. -/
theorem rowOf_alloc_new (w : World) (cs : List Value) (t : TypeId) (fr : Nat × Nat) (b n : Nat) (hb : b = w.heap.size) (h : cs.length = n) : rowOf (w.alloc (.cells cs.toArray t fr)) b 0 n = some cs := by
  subst hb
  rw [rowOf_block (heap_alloc_new w _) 0 n (by simp [h])]
  subst h
  simp

theorem rowOf_setCell_other (w : World) (b' o' : Nat) (v : Value) (b o n : Nat) (h : b ≠ b') : rowOf (w.setCell ⟨b', o', none⟩ v) b o n = rowOf w b o n :=
  rowOf_congr (Below.heap_setCell _ _ _ _ h) o n

/-- The call returned this value; below the heap's size at its begin nothing has turned. -/
def Gives (v : Value) (w : World) (e : Ending) (w' : World) : Prop := e = .returned v ∧ Below w.heap.size w w'
theorem gives_int {a b : Int} {k : IntKind} {w w' : World} (h : a = b) (hb : Below w.heap.size w w') : Gives (.int k b) w (.returned (.int k a)) w' := by subst h; exact ⟨rfl, hb⟩
theorem gives_bool {a b : Bool} {w w' : World} (h : a = b) (hb : Below w.heap.size w w') : Gives (.bool b) w (.returned (.bool a)) w' := by subst h; exact ⟨rfl, hb⟩
theorem gives {a b : Value} {w w' : World} (h : a = b) (hb : Below w.heap.size w w') : Gives b w (.returned a) w' := by subst h; exact ⟨rfl, hb⟩

/-- What a later world keeps, in the walk's own words. -/
theorem bcell {W w1 : World} (hb : Below W.heap.size W w1) : (∀ b o, b < W.heap.size → w1.cell? ⟨b, o, none⟩ = W.cell? ⟨b, o, none⟩) ∧ (∀ b o, b < W.heap.size → w1.frozen? ⟨b, o, none⟩ = W.frozen? ⟨b, o, none⟩) ∧
    (∀ b o n, b < W.heap.size → rowOf w1 b o n = rowOf W b o n) ∧ (∀ b, b < W.heap.size → w1.heap[b]? = W.heap[b]?) :=
  ⟨fun b o h => hb.cell (p := ⟨b, o, none⟩) h, fun b o h => hb.frozen (p := ⟨b, o, none⟩) h, fun b o n h => rowOf_congr (hb.block b h) o n, fun b h => hb.block b h⟩

theorem Below.of {B B' : Nat} {a b c : World} (h : Below B' b c) (hB : B ≤ B') (h0 : Below B a b) : Below B a c := h0.trans (h.mono hB)

/-- An elder block's number, in the walk's own words. -/
theorem old_facts {b s : Nat} (h : b < s) : b ≤ s ∧ b ≤ s + 1 ∧ b ≤ s + 1 + 1 ∧ b ≤ s + 1 + 1 + 1 ∧ b ≤ s + 1 + 1 + 1 + 1 ∧ b < s + 1 ∧ b < s + 1 + 1 ∧ b < s + 1 + 1 + 1 ∧ b < s + 1 + 1 + 1 + 1 := by omega

end Go.Proofs.Ytahkiabpjfcfdaa
