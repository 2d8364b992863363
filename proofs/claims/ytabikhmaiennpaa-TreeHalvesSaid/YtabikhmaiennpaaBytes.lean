/- Bytes in memory: rows of them, make, a store, string(b). In this seat's numbers. -/
import Derived.Test.YtabikhmaiennpaaRows
import Derived.Test.YtabikhmaiennpaaBase
import Derived.Laws.IdiomStrings
import Derived.Laws.MakeOwn
import Derived.WalkSpells
namespace Go.Proofs.Ytabikhmaiennpaa
set_option maxRecDepth 100000
open Go.RowKit
set_option linter.unusedVariables false

/-- The cells of bytes. -/
@[irreducible] def bC (l : List UInt8) : List Value := l.map Extern.Stop.cell
@[go_sem] theorem bC_length (l : List UInt8) : (bC l).length = l.length := by unfold bC; simp
theorem bC_get {l : List UInt8} {i : Nat} {x : UInt8} (h : l[i]? = some x) : (bC l)[i]? = some (.int .u8 (x.toNat : Int)) := by
  unfold bC; rw [List.getElem?_map, h]; rfl
theorem bC_append (a b : List UInt8) : bC (a ++ b) = bC a ++ bC b := by unfold bC; rw [List.map_append]
theorem bC_set (l : List UInt8) (i : Nat) (x : UInt8) : (bC l).set i (.int .u8 (x.toNat : Int)) = bC (l.set i x) := by
  unfold bC
  rw [List.map_set]; rfl
/-- A byte stored into a new block. -/
theorem setCell_bC (w : World) (l : List UInt8) (t : TypeId) (fr : Nat × Nat) (b i : Nat) (x : UInt8) (v : Value) (hv : v = .int .u8 (x.toNat : Int)) (hb : b = w.heap.size) :
    (w.alloc (.cells (bC l).toArray t fr)).setCell ⟨b, i, none⟩ v = w.alloc (.cells (bC (l.set i x)).toArray t fr) := by
  subst hb hv
  rw [← bC_set]
  have hm : ∀ (a : Array Obj) (y : Obj) (f : Obj → Obj), (a.push y).modify a.size f = a.push (f y) := by
    intro a y f
    apply Array.ext
    · simp
    · intro i h1 h2
      simp only [Array.getElem_modify, Array.getElem_push]
      by_cases h : a.size = i
      · subst h
        simp
      · have hi : i < a.size := by simp at h1; omega
        simp [h, hi]
  unfold World.setCell World.alloc
  simp [hm]

def slowMakeB (P : Program) (t : TypeId) (u v : Value) (w : World) : Result Next := (do pure (.value (← Instr.makeSlice t u v)) : Sem Next).run P w
def makeBTo (P : Program) (t e : TypeId) (w : World) (u v : Value) : Result Next :=
  match u, v with
  | .int .i64 k, .int .i64 k' => if k = k' ∧ 0 ≤ k ∧ k ≤ 2000000 then .ok (.value (.slice (some ⟨w.heap.size, 0, none⟩) k.toNat k.toNat)) (w.alloc (.cells (bC (List.replicate k.toNat 0)).toArray e)) else slowMakeB P t u v w
  | u, v => slowMakeB P t u v w
@[go_sem] theorem makeBTo_ok (P : Program) (t e : TypeId) (w : World) (k : Int) :
    makeBTo P t e w (.int .i64 k) (.int .i64 k) = if 0 ≤ k ∧ k ≤ 2000000 then .ok (.value (.slice (some ⟨w.heap.size, 0, none⟩) k.toNat k.toNat)) (w.alloc (.cells (bC (List.replicate k.toNat 0)).toArray e)) else slowMakeB P t (.int .i64 k) (.int .i64 k) w := by
  simp only [makeBTo, true_and]
theorem info_u8 : ∃ i, Try.prog.info? 5 = some i ∧ i.size = 1 ∧ i.bytes = 1 ∧ i.zero = some (.int .u8 0) := by
  have h : (Try.prog.info? 5).map (fun i => (i.size, i.bytes, i.zero)) = some (1, 1, some (.int .u8 0)) := by kernel_rfl
  obtain ⟨i, hi, h'⟩ := Option.map_eq_some_iff.1 h
  simp only [Prod.mk.injEq] at h'
  exact ⟨i, hi, h'.1, h'.2.1, h'.2.2⟩
theorem made_u8 (n : Nat) : madeCells (Value.int .u8 0).cells n = (bC (List.replicate n 0)).toArray := by
  unfold bC
  apply Array.ext
  · simp [size_madeCells]
  · intro i h1 h2
    simp [madeCells, Value.cells, Extern.Stop.cell, Nat.mod_one]
theorem make_u8 (ρ : Operand → Value) (dst : Option Tmp) (x y : Operand) (t' : TypeId) (pos : String) (after : Array Edge) (guard : Option (Nat × Bool)) (w : World) :
    (execOp ρ ⟨dst, .makeSlice 51 x y, t', pos, after, guard⟩).run Try.prog w = makeBTo Try.prog 51 5 w (ρ x) (ρ y) := by
  have hslow : (execOp ρ ⟨dst, .makeSlice 51 x y, t', pos, after, guard⟩).run Try.prog w = slowMakeB Try.prog 51 (ρ x) (ρ y) w := rfl
  rw [hslow]
  unfold makeBTo
  split
  · rename_i k k' hu' hv'
    split
    · rename_i hk
      obtain ⟨rfl, hk0, hk1⟩ := hk
      obtain ⟨i, hi, hs, hb, hz⟩ := info_u8
      rw [hu', hv']
      simp only [slowMakeB, Sem.run_bind, Go.run_make w 51 5 i _ Try.underlying51 hi hz .i64 .i64 k k hk0 (Int.le_refl _) (by rw [hb]; omega) (by omega), hs, Nat.mul_one, made_u8]
      rfl
    · rfl
  · rfl

/-- The string of bytes. -/
def sB (l : List UInt8) : ByteArray := ⟨l.toArray⟩
theorem sB_size (l : List UInt8) : (sB l).size = l.length := by simp [sB, ByteArray.size]
/-- 'string(b)' of a block of bytes. -/
theorem run_string_of (w : World) (b cap : Nat) (l : List UInt8) (t : TypeId) (n : Nat) (hn : n = l.length) (hb : w.heap[b]? = some (.cells (bC l).toArray t)) :
    (convert 51 9 (.slice (some ⟨b, 0, none⟩) n cap)).run Try.prog w = .ok (.string (sB l)) w := by
  subst hn
  refine run_convert_bytes_back w _ _ 5 ⟨b, 0, none⟩ cap l Try.underlying51 Try.underlying5 Try.underlying9 fun j hj => ?_
  have hl : l[j]? = some l[j] := List.getElem?_eq_getElem hj
  have := bC_get hl
  rw [Addr.add_mid, Nat.zero_add, World.cell?]
  simp only [hb]
  simpa using this

end Go.Proofs.Ytabikhmaiennpaa
