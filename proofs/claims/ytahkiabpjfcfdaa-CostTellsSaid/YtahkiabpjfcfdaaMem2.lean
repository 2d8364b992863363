/- More words on rows: a store of a row, a new variable of a row type, a slice of one element, two keys compared. No program. -/
import Derived.Test.YtahkiabpjfcfdaaMem
import Derived.Stop.BytesEq
namespace Go.Proofs.Ytahkiabpjfcfdaa
set_option maxRecDepth 100000
open Go.RowKit

/-! ### A store of a row -/
/-- n cells are there and may be written. -/
def canPut (w : World) (b o : Nat) : Nat → Bool
  | 0 => true
  | n + 1 => (w.cell? ⟨b, o, none⟩).isSome && !(w.frozen? ⟨b, o, none⟩) && canPut w b (o + 1) n

theorem canPut_there {w : World} {b : Nat} : ∀ {n o : Nat}, canPut w b o n = true ↔ w.there b o n
  | 0, o => by simp [canPut, World.there]
  | n + 1, o => by
    simp only [canPut, Bool.and_eq_true, Bool.not_eq_true', canPut_there]
    constructor
    · rintro ⟨⟨h1, h2⟩, h3⟩ j hj
      cases j with
      | zero => exact ⟨h1, h2⟩
      | succ j => have := h3 j (by omega); rwa [show o + 1 + j = o + (j + 1) from by omega] at this
    · intro h
      refine ⟨⟨(h 0 (by omega)).1, (h 0 (by omega)).2⟩, fun j hj => ?_⟩
      have := h (j + 1) (by omega)
      rwa [show o + (j + 1) = o + 1 + j from by omega] at this

theorem canPut_congr {w w' : World} {b : Nat} (h : w'.heap[b]? = w.heap[b]?) (o n : Nat) : canPut w' b o n = canPut w b o n := by
  induction n generalizing o with
  | zero => rfl
  | succ n ih => simp only [canPut, ih, World.cell?, World.frozen?, h]
theorem canPut_drew (w : World) (b o n : Nat) : canPut w.drew b o n = canPut w b o n := canPut_congr (w := w) (w' := w.drew) rfl o n
theorem canPut_alloc_old (w : World) (ob : Obj) (b o n : Nat) (h : b < w.heap.size) : canPut (w.alloc ob) b o n = canPut w b o n :=
  canPut_congr (Below.heap_alloc w ob b h) o n
theorem canPut_block {w : World} {b : Nat} {C : Array Value} {t : TypeId} (hb : w.heap[b]? = some (.cells C t (0, 0))) (o n : Nat) (h : o + n ≤ C.size) : canPut w b o n = true :=
  canPut_there.2 fun j hj => ⟨by rw [cell_of_row w b _ C t _ hb]; simp; omega, frozen_of_row w b _ C t hb⟩
theorem canPut_alloc_new (w : World) (cs : List Value) (t : TypeId) (b o n : Nat) (hb : b = w.heap.size) (h : o + n ≤ cs.length) : canPut (w.alloc (.cells cs.toArray t)) b o n = true := by
  subst hb
  exact canPut_block (heap_alloc_new w _) o n (by simpa using h)

def slowStore (P : Program) (ty : TypeId) (v u : Value) (w : World) : Result Next := (do Instr.storeAt ty v u; pure .skip : Sem Next).run P w
def storeGot (slow : Result Next) (w : World) (b o : Nat) (cs : List Value) : Bool → Result Next
  | true => .ok .skip (w.setCells b o cs)
  | false => slow
@[go_sem] theorem storeGot_true (slow : Result Next) (w : World) (b o : Nat) (cs : List Value) : storeGot slow w b o cs true = .ok .skip (w.setCells b o cs) := rfl
/-- The cells of a row: n of them, each one cell. -/
def isRow (n : Nat) (cs : List Value) : Bool := decide (cs.length = n) && cs.all (·.oneCell')
def storeTo (P : Program) (ty : TypeId) (n : Nat) (w : World) (v u : Value) : Result Next :=
  match v, u with
  | .pointer (some ⟨b, o, none⟩), .agg cs => storeGot (slowStore P ty v u w) w b o cs.toList (isRow n cs.toList && canPut w b o n)
  | _, _ => slowStore P ty v u w
@[go_sem] theorem storeTo_ptr (P : Program) (ty : TypeId) (n : Nat) (w : World) (b o : Nat) (cs : List Value) :
    storeTo P ty n w (.pointer (some ⟨b, o, none⟩)) (.agg cs.toArray) = storeGot (slowStore P ty (.pointer (some ⟨b, o, none⟩)) (.agg cs.toArray) w) w b o cs (isRow n cs && canPut w b o n) := by
  simp only [storeTo]

theorem exec_store {P : Program} {ty n : Nat} (hi : (P.info? ty).map (·.size) = some n)
    (ρ : Operand → Value) (dst : Option Tmp) (a x : Operand) (t : TypeId) (pos : String) (after : Array Edge) (guard : Option (Nat × Bool)) (w : World) :
    (execOp ρ ⟨dst, .store ty a x, t, pos, after, guard⟩).run P w = storeTo P ty n w (ρ a) (ρ x) := by
  have hslow : (execOp ρ ⟨dst, .store ty a x, t, pos, after, guard⟩).run P w = slowStore P ty (ρ a) (ρ x) w := rfl
  rw [hslow]
  unfold storeTo
  split
  · rename_i b o cs hv hu
    cases h : (isRow n cs.toList && canPut w b o n) with
    | false => rfl
    | true =>
      simp only [isRow, Bool.and_eq_true, decide_eq_true_eq] at h
      obtain ⟨⟨h1, h2⟩, h3⟩ := h
      have hs : cs.size = n := by simpa using h1
      have := run_storeAt_mid (P := P) w b o ty cs (by rw [hs]; exact canPut_there.1 h3) (by rw [hi, hs]) (by simpa using h2)
      rw [hv, hu]
      simp only [slowStore, Sem.run_bind, this]
      rfl
  · rfl

/-- A row stored over a block that has just been laid. -/
theorem setCells_append (b : Nat) : ∀ (cs : List Value) (w : World) (pre mid post : List Value) (t : TypeId) (fr : Nat × Nat), mid.length = cs.length → w.heap[b]? = some (.cells (pre ++ mid ++ post).toArray t fr) →
    w.setCells b pre.length cs = { w with heap := w.heap.set! b (.cells (pre ++ cs ++ post).toArray t fr) }
  | [], w, pre, mid, post, t, fr, hm, hb => by
    have : mid = [] := List.length_eq_zero_iff.1 (by simpa using hm)
    subst this
    have hlt : b < w.heap.size := (Array.getElem?_eq_some_iff.1 hb).1
    have he : w.heap[b] = .cells (pre ++ [] ++ post).toArray t fr := (Array.getElem?_eq_some_iff.1 hb).2
    simp only [World.setCells]
    rw [← he]
    have hs : w.heap.set! b w.heap[b] = w.heap := by
      apply Array.ext_getElem?
      intro i
      simp only [Array.set!_eq_setIfInBounds, Array.getElem?_setIfInBounds]
      by_cases e : b = i
      · subst e; simp [hlt]
      · simp [e]
    rw [hs]
  | v :: cs, w, pre, mid, post, t, fr, hm, hb => by
    cases mid with
    | nil => simp at hm
    | cons m mid =>
      have hlt : b < w.heap.size := (Array.getElem?_eq_some_iff.1 hb).1
      have h1 : (w.setCell ⟨b, pre.length, none⟩ v).heap[b]? = some (.cells ((pre ++ [v]) ++ mid ++ post).toArray t fr) := by
        simp only [World.setCell, Array.getElem?_modify, if_true, hb, Option.map_some]
        simp
      have ih := setCells_append b cs (w.setCell ⟨b, pre.length, none⟩ v) (pre ++ [v]) mid post t fr (by simpa using hm) h1
      simp only [World.setCells]
      rw [show pre.length + 1 = (pre ++ [v]).length from by simp, ih]
      simp only [World.setCell, List.append_assoc, List.cons_append, List.nil_append]
      congr 1
      apply Array.ext_getElem?
      intro i
      simp only [Array.set!_eq_setIfInBounds, Array.getElem?_setIfInBounds, Array.getElem?_modify, Array.size_modify]
      by_cases e : b = i
      · simp [e]
      · simp [e]

theorem setCells_alloc_new (w : World) (zs cs : List Value) (t : TypeId) (fr : Nat × Nat) (b : Nat) (hb : b = w.heap.size) (h : zs.length = cs.length) :
    (w.alloc (.cells zs.toArray t fr)).setCells b 0 cs = w.alloc (.cells cs.toArray t fr) := by
  subst hb
  have := setCells_append w.heap.size cs (w.alloc (.cells zs.toArray t fr)) [] zs [] t fr h (by simpa using heap_alloc_new w (.cells zs.toArray t fr))
  simp only [List.length_nil, List.nil_append, List.append_nil] at this
  rw [this]
  simp only [World.alloc]
  congr 1
  apply Array.ext_getElem?
  intro i
  simp only [Array.set!_eq_setIfInBounds, Array.getElem?_setIfInBounds, Array.getElem?_push, Array.size_push]
  by_cases e : w.heap.size = i
  · simp [e]
  · by_cases e2 : i = w.heap.size
    · omega
    · simp [e, e2]

theorem setCells_drew (b : Nat) : ∀ (cs : List Value) (o : Nat) (w : World), w.drew.setCells b o cs = (w.setCells b o cs).drew
  | [], _, _ => rfl
  | v :: cs, o, w => by
    simp only [World.setCells]
    exact setCells_drew b cs (o + 1) (w.setCell ⟨b, o, none⟩ v)

/-- A store into an elder block goes under a new one. -/
theorem setCell_alloc_old (w : World) (ob : Obj) (b o : Nat) (v : Value) (h : b < w.heap.size) : (w.alloc ob).setCell ⟨b, o, none⟩ v = (w.setCell ⟨b, o, none⟩ v).alloc ob := by
  simp only [World.alloc, World.setCell]
  congr 1
  apply Array.ext_getElem?
  intro i
  simp only [Array.getElem?_modify, Array.getElem?_push, Array.size_modify]
  by_cases e : i = w.heap.size
  · subst e; rw [if_neg (by omega)]; simp
  · simp [e]
theorem setCells_alloc_old (ob : Obj) (b : Nat) : ∀ (cs : List Value) (o : Nat) (w : World), b < w.heap.size → (w.alloc ob).setCells b o cs = (w.setCells b o cs).alloc ob
  | [], _, _, _ => rfl
  | v :: cs, o, w, h => by
    simp only [World.setCells]
    rw [setCell_alloc_old w ob b o v h]
    exact setCells_alloc_old ob b cs (o + 1) _ (by simpa [World.setCell] using h)

/-! ### A new variable of a row type -/
theorem exec_alloc {P : Program} {e : TypeId} {Z : List Value} (hz : (P.info? e).bind (·.zero) = some (.agg Z.toArray))
    (ρ : Operand → Value) (dst : Option Tmp) (t : TypeId) (pos : String) (after : Array Edge) (guard : Option (Nat × Bool)) (w : World) :
    (execOp ρ ⟨dst, .alloc e, t, pos, after, guard⟩).run P w = .ok (.value (.pointer (some ⟨w.heap.size, 0, none⟩))) (w.alloc (.cells Z.toArray e)) := by
  cases hq : P.info? e with
  | none => simp [hq] at hz
  | some i =>
    have h0 : i.zero = some (.agg Z.toArray) := by simpa [hq] using hz
    simp [execOp, Instr.alloc, zeroValue, typeInfo, hq, h0, newVar, newRow, Value.cells, go_sem]

theorem exec_build0 {P : Program} {e : TypeId} {Z : List Value}
    (hb : ∀ w : World, (Instr.build e #[]).run P w = .ok (.agg Z.toArray) w)
    (ρ : Operand → Value) (dst : Option Tmp) (t : TypeId) (pos : String) (after : Array Edge) (guard : Option (Nat × Bool)) (w : World) :
    (execOp ρ ⟨dst, .build e #[], t, pos, after, guard⟩).run P w = .ok (.value (.agg Z.toArray)) w := by
  have : (execOp ρ ⟨dst, .build e #[], t, pos, after, guard⟩) = (do pure (.value (← Instr.build e #[])) : Sem Next) := by simp [execOp]
  rw [this]
  simp only [Sem.run_bind, hb]
  rfl

/-! ### A slice of one element that is a row -/
def slowOne (P : Program) (t : TypeId) (u : Value) (w : World) : Result Next := (do pure (.value (← Instr.buildSlice t 1 #[(0, u)])) : Sem Next).run P w
def oneGot (slow : Result Next) (e : TypeId) (w : World) (cs : List Value) : Bool → Result Next
  | true => .ok (.value (.slice (some ⟨w.heap.size, 0, none⟩) 1 1)) (w.alloc (.cells cs.toArray e))
  | false => slow
@[go_sem] theorem oneGot_true (slow : Result Next) (e : TypeId) (w : World) (cs : List Value) : oneGot slow e w cs true = .ok (.value (.slice (some ⟨w.heap.size, 0, none⟩) 1 1)) (w.alloc (.cells cs.toArray e)) := rfl
def oneTo (P : Program) (t e : TypeId) (n : Nat) (w : World) (u : Value) : Result Next :=
  match u with
  | .agg cs => oneGot (slowOne P t u w) e w cs.toList (decide (cs.toList.length = n))
  | _ => slowOne P t u w
@[go_sem] theorem oneTo_agg (P : Program) (t e : TypeId) (n : Nat) (w : World) (cs : List Value) : oneTo P t e n w (.agg cs.toArray) = oneGot (slowOne P t (.agg cs.toArray) w) e w cs (decide (cs.length = n)) := by
  simp only [oneTo]

theorem foldl_set (cs : List Value) : ∀ (pre mid post : List Value), mid.length = cs.length →
    (cs.zipIdx pre.length).foldl (fun (a : Array Value) (p : Value × Nat) => a.setIfInBounds (0 + p.2) p.1) (pre ++ mid ++ post).toArray = (pre ++ cs ++ post).toArray := by
  induction cs with
  | nil => intro pre mid post h; have : mid = [] := List.length_eq_zero_iff.1 (by simpa using h); subst this; rfl
  | cons c cs ih =>
    intro pre mid post h
    cases mid with
    | nil => simp at h
    | cons m mid =>
      have := ih (pre ++ [c]) mid post (by simpa using h)
      rw [List.zipIdx_cons, List.foldl_cons]
      rw [show (pre ++ m :: mid ++ post).toArray.setIfInBounds (0 + pre.length) c = (pre ++ [c] ++ mid ++ post).toArray from by simp]
      rw [show pre.length + 1 = (pre ++ [c]).length from by simp]
      rw [this]
      simp

theorem exec_one {P : Program} {t e : TypeId} {n : Nat} {i : TypeInfo} {Z : Array Value} (hu : P.underlying t = some (.slice e)) (hi : P.info? e = some i) (hs : i.size = n) (h0 : n ≠ 0) (hn : n ≤ 1000) (hz : i.zero = some (.agg Z)) (hZ : Z.size = n)
    (ρ : Operand → Value) (dst : Option Tmp) (x : Operand) (t' : TypeId) (pos : String) (after : Array Edge) (guard : Option (Nat × Bool)) (w : World) :
    (execOp ρ ⟨dst, .buildSlice t 1 #[(0, x)], t', pos, after, guard⟩).run P w = oneTo P t e n w (ρ x) := by
  have hslow : (execOp ρ ⟨dst, .buildSlice t 1 #[(0, x)], t', pos, after, guard⟩).run P w = slowOne P t (ρ x) w := by
    simp only [execOp, slowOne]
    simp
  rw [hslow]
  unfold oneTo
  split
  · rename_i cs hv
    cases h : decide (cs.toList.length = n) with
    | false => rfl
    | true =>
      have hc : cs.size = n := by simpa using h
      have hf : Instr.fill (fun i => some (i * n, n)) ((Array.range n).map (Z[· % Z.size]!)) [(0, .agg cs)] = some cs := by
        simp only [Instr.fill, Value.cells, hc, Array.size_map, Array.size_range]
        have := foldl_set cs.toList [] ((Array.range n).map (Z[· % Z.size]!)).toList [] (by simp [hc])
        simp only [List.length_nil, List.nil_append, List.append_nil, Array.toArray_toList] at this
        rw [← Array.foldl_toList, Array.toList_zipIdx]
        rw [if_neg (by simp)]
        simp only [Nat.zero_mul]
        rw [this]
      simp only [slowOne, Instr.buildSlice, Sem.run_bind, run_underlying hu, Result.andThen_ok, sizeOf, typeInfo, run_program, hi, hs, Sem.run_pure, Nat.one_mul, h0, if_false]
      rw [if_neg (by omega)]
      have hb : (zeroValue e).run P w = .ok (.agg Z) w := by simp [zeroValue, typeInfo, hi, hz]
      simp only [Sem.run_bind, hb, Result.andThen_ok, Sem.run_pure, hv, Value.cells, hf, newRow, newObj]
      simp only [oneGot, Array.toArray_toList]
      rfl
  · rfl

/-! ### Two keys compared -/
structure Key where
  val : List UInt8
  property : val.length = 32
theorem Key.ext {a b : Key} (h : a.val = b.val) : a = b := by cases a; cases b; simp at h; subst h; rfl
instance : DecidableEq Key := fun a b => decidable_of_iff (a.val = b.val) ⟨Key.ext, fun h => by rw [h]⟩
@[irreducible] def keyC (k : Key) : List Value := k.1.map Extern.Stop.cell
@[go_sem] theorem keyC_length (k : Key) : (keyC k).length = 32 := by unfold keyC; simp [k.2]
@[go_sem] theorem keyC_row (k : Key) : isRow 32 (keyC k) = true := by
  unfold isRow
  simp [keyC_length]
  unfold keyC
  simp [Extern.Stop.cell, Value.oneCell']

def slowEq (P : Program) (op : BinOp) (ty : TypeId) (x y : Operand) (u v : Value) (w : World) : Result Next := (do pure (.value (← (do eqGuard op ty x y u v; binOp op ty u v))) : Sem Next).run P w
/-- Two keys' comparison: told where both are keys. -/
def eqTo (P : Program) (op : BinOp) (ty : TypeId) (x y : Operand) (w : World) (u v : Value) : Result Next := slowEq P op ty x y u v w

theorem exec_eq {P : Program} (op : BinOp) (ty : TypeId) (ρ : Operand → Value) (dst : Option Tmp) (x y : Operand) (ty2 t' : TypeId) (pos : String) (after : Array Edge) (guard : Option (Nat × Bool)) (w : World) :
    (execOp ρ ⟨dst, .binOp op ty x y ty2, t', pos, after, guard⟩).run P w = eqTo P op ty x y w (ρ x) (ρ y) := rfl

theorem eqTo_key {P : Program} {t e : TypeId} (ht : P.underlying t = some (.array 32 e)) (he : P.underlying e = some (.int .u8)) (hsz : ∀ w, (sizeOf e).run P w = .ok 1 w) (hg : P.eqGuardType P.depth t = false)
    (x y : Operand) (w : World) (a b : Key) : eqTo P .eql t x y w (.agg (keyC a).toArray) (.agg (keyC b).toArray) = .ok (.value (.bool (a == b))) w := by
  have h := run_eql_bytes (P := P) w t e 32 ht he hsz a.1 b.1 a.2 b.2
  have hb : (a.1 == b.1) = (a == b) := by
    rw [Bool.eq_iff_iff, beq_iff_eq, beq_iff_eq]
    exact ⟨Key.ext, fun h => by rw [h]⟩
  unfold keyC
  have hG : (eqGuard .eql t x y (.agg (a.1.map Extern.Stop.cell).toArray) (.agg (b.1.map Extern.Stop.cell).toArray)).run P w = .ok () w := by
    simp [eqGuard, hg]
  show ((do pure (.value (← (do eqGuard .eql t x y (.agg (a.1.map Extern.Stop.cell).toArray) (.agg (b.1.map Extern.Stop.cell).toArray); binOp .eql t (.agg (a.1.map Extern.Stop.cell).toArray) (.agg (b.1.map Extern.Stop.cell).toArray)))) : Sem Next)).run P w = _
  rw [Sem.run_bind, Sem.run_bind, hG, Result.andThen_ok, h, hb]
  rfl

theorem eqTo_neq_key {P : Program} {t e : TypeId} (ht : P.underlying t = some (.array 32 e)) (he : P.underlying e = some (.int .u8)) (hsz : ∀ w, (sizeOf e).run P w = .ok 1 w) (hg : P.eqGuardType P.depth t = false)
    (x y : Operand) (w : World) (a b : Key) : eqTo P .neq t x y w (.agg (keyC a).toArray) (.agg (keyC b).toArray) = .ok (.value (.bool (!(a == b)))) w := by
  have h := run_equalIn_bytes (P := P) w 9998 t e 32 ht he hsz a.1 b.1 a.2 b.2
  have hb : (a.1 == b.1) = (a == b) := by
    rw [Bool.eq_iff_iff, beq_iff_eq, beq_iff_eq]
    exact ⟨Key.ext, fun h => by rw [h]⟩
  unfold keyC
  have hG : (eqGuard .neq t x y (.agg (a.1.map Extern.Stop.cell).toArray) (.agg (b.1.map Extern.Stop.cell).toArray)).run P w = .ok () w := by
    simp [eqGuard, hg]
  show ((do pure (.value (← (do eqGuard .neq t x y (.agg (a.1.map Extern.Stop.cell).toArray) (.agg (b.1.map Extern.Stop.cell).toArray); binOp .neq t (.agg (a.1.map Extern.Stop.cell).toArray) (.agg (b.1.map Extern.Stop.cell).toArray)))) : Sem Next)).run P w = _
  rw [Sem.run_bind, Sem.run_bind, hG, Result.andThen_ok, run_neq_struct, h, hb]
  rfl

end Go.Proofs.Ytahkiabpjfcfdaa
