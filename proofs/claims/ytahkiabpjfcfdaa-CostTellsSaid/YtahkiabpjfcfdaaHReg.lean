/- A region that draws its order and makes memory: the moves of a walk that is printed. No program. -/
import Derived.Test.YtahkiabpjfcfdaaHeld
import Derived.Deep.RegionHeld3
namespace Go.Proofs.Ytahkiabpjfcfdaa
set_option maxRecDepth 100000
open Go.RowKit
set_option linter.unusedVariables false

def nthOp : List Oper → Nat → Option Oper
  | [], _ => none
  | o :: _, 0 => some o
  | _ :: l, n + 1 => nthOp l n
theorem nthOp_eq : ∀ (l : List Oper) (i : Nat), nthOp l i = l[i]?
  | [], _ => rfl
  | _ :: _, 0 => rfl
  | _ :: l, n + 1 => by rw [nthOp, nthOp_eq l n]; rfl
theorem nthOp_arr {l : List Oper} {i : Nat} {o : Oper} (h : nthOp l i = some o) : l.toArray[i]? = some o := by rw [nthOp_eq] at h; simpa using h

def YieldsV (w : World) (v : Value) (r : Result Next) : Prop := r = .ok (.value v) w
theorem yieldsV_mk {w : World} {u v : Value} (h : u = v) : YieldsV w v (.ok (.value u) w) := by rw [h]; rfl

section
variable {P : Program} {Q : Exit → Act → World → Prop} {md : Region.Mode} {S : World → Prop} {l : List Oper}
theorem hreg_begin {id : Nat} {a : Act} {w : World} (hm : P.follows .mixedOrders = true) (hS : S w.drew)
    (h : S w.drew → wpAnyH P .any l.toArray (NoPanic Q) S l.length (Array.replicate l.length false) a w.drew) : (Code.region id l.toArray true).wp P Q a w := by
  refine wp_region_noPanic (wp_region_held_drew hm hS ?_)
  simpa using h
theorem hreg_take {i : Nat} {oi : Oper} {fuel : Nat} {listed : Array Bool} {a : Act} {w : World} (hi : nthOp l i = some oi)
    (hs : Region.noSelect l.toArray = true) (hf : Region.free md l.toArray listed i = true) (hr : (Region.ready md l.toArray listed).contains i = true)
    (hQ : ∀ c a v w, Q (.panic c) (a.put oi.dst v) w → Q (.panic c) a w) (hw : Region.wanted oi (yielded l.toArray a.tmps) = true) (hS : S w)
    (h : ∃ v, (∀ w, S w → YieldsV w v ((execOp a.eval oi).run P w)) ∧ wpAnyH P md l.toArray Q S fuel (listed.setIfInBounds i true) (a.put oi.dst v) w) : wpAnyH P md l.toArray Q S (fuel + 1) listed a w := by
  obtain ⟨v, hv, h⟩ := h
  exact wpAnyH_take (nthOp_arr hi) hs hf hr (fun c a w => hQ c a v w) (.inl ⟨hw, hv⟩) hS h
theorem hreg_skip {i : Nat} {oi : Oper} {fuel : Nat} {listed : Array Bool} {a : Act} {w : World} (hi : nthOp l i = some oi)
    (hs : Region.noSelect l.toArray = true) (hf : Region.free md l.toArray listed i = true) (hr : (Region.ready md l.toArray listed).contains i = true)
    (hQ : ∀ c a v w, Q (.panic c) (a.put oi.dst v) w → Q (.panic c) a w) (hw : Region.wanted oi (yielded l.toArray a.tmps) = false) (hS : S w)
    (h : wpAnyH P md l.toArray Q S fuel (listed.setIfInBounds i true) (a.put oi.dst undef) w) : wpAnyH P md l.toArray Q S (fuel + 1) listed a w :=
  wpAnyH_take (nthOp_arr hi) hs hf hr (fun c a w => hQ c a undef w) (.inr ⟨hw, rfl⟩) hS h
theorem hreg_event {fuel : Nat} {listed : Array Bool} {a : Act} {w : World} {i : Nat} {o : Oper} {rs : List Nat} (ho : nthOp l i = some o) (hw : Region.wanted o (yielded l.toArray a.tmps) = true)
    (h : ∀ K' : Act → World → Prop, Shut (∀ a' w', S w' → (S w' → wpAnyH P md l.toArray Q S fuel (listed.setIfInBounds i true) a' w') → K' a' w') → Oper.wp P o a w K' Q)
    (hs : AllReadyH P md l.toArray Q S fuel listed a w rs) : AllReadyH P md l.toArray Q S fuel listed a w (i :: rs) :=
  AllReadyH.cons (nthOp_arr ho) (fun K' hK => by rw [if_pos hw]; exact h K' hK) hs
theorem hreg_panic {d : Option Tmp} {R : Exit → Act → World → Prop} : ∀ c (a : Act) (v : Value) (w : World), NoPanic R (.panic c) (a.put d v) w → NoPanic R (.panic c) a w := fun _ _ _ _ h => h
end
theorem SinceP.setCell {W w : World} (h : SinceP W w) {b o : Nat} (hb : W.heap.size ≤ b) (v : Value) : SinceP W (w.setCell ⟨b, o, none⟩ v) := ⟨Below.setCell h.out hb v⟩
/-- Nothing below block B has turned since W. -/
structure SinceB (B : Nat) (W w : World) : Prop where
  out : Below B W w
  le : B ≤ W.heap.size
theorem SinceB.refl {B : Nat} {W : World} (h : B ≤ W.heap.size) : SinceB B W W := ⟨Below.refl _ _, h⟩
theorem SinceB.next {B : Nat} {W w w' : World} (h : SinceB B W w) (hb : Below w.heap.size w w') : SinceB B W w' := ⟨Below.of hb (Nat.le_trans h.le h.out.size) h.out, h.le⟩
theorem SinceB.alloc {B : Nat} {W w : World} (h : SinceB B W w) (ob : Obj) : SinceB B W (w.alloc ob) := ⟨h.out.alloc (Nat.le_trans h.le h.out.size) ob, h.le⟩
theorem SinceB.drew {B : Nat} {W w : World} (h : SinceB B W w) : SinceB B W w.drew := ⟨h.out.drew, h.le⟩
theorem SinceB.setCell {B : Nat} {W w : World} (h : SinceB B W w) {b o : Nat} (hb : B ≤ b) (v : Value) : SinceB B W (w.setCell ⟨b, o, none⟩ v) := ⟨Below.setCell h.out hb v, h.le⟩
theorem SinceB.trans {B : Nat} {W w w' : World} (h : SinceB B W w) (h' : SinceB B w w') : SinceB B W w' := ⟨h.out.trans h'.out, h.le⟩
theorem SinceB.grown {B : Nat} {W w w' : World} {row : Option Nat} (h : SinceB B W w) (hg : w.grownBy w' row) (hr : ∀ k, row = some k → B ≤ k) : SinceB B W w' := ⟨h.out.trans (grown_below hg hr (Nat.le_trans h.le h.out.size)), h.le⟩
theorem SinceB.size {B : Nat} {W w : World} (h : SinceB B W w) : W.heap.size ≤ w.heap.size := h.out.size
theorem SinceB.row {B : Nat} {W w : World} (h : SinceB B W w) {b o n : Nat} {v : Option (List Value)} (hb : b < B) (hr : rowOf W b o n = v) : rowOf w b o n = v := by rw [rowOf_congr (h.out.block b hb)]; exact hr
theorem SinceB.cell {B : Nat} {W w : World} (h : SinceB B W w) {b o : Nat} {v : Option Value} (hb : b < B) (hr : W.cell? ⟨b, o, none⟩ = v) : w.cell? ⟨b, o, none⟩ = v := by rw [h.out.cell (p := ⟨b, o, none⟩) hb]; exact hr
end Go.Proofs.Ytahkiabpjfcfdaa
