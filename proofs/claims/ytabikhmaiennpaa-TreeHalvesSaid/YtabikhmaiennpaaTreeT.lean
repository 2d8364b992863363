/- Arrays of keys, and a tree of notes, as values: their cells, and the rules of their types. -/
import Derived.Test.YtabikhmaiennpaaKey
import Derived.Test.YtabikhmaiennpaaBase
import Derived.Test.YtabikhmaiennpaaRes
namespace Go.Proofs.Ytabikhmaiennpaa
open Go.RowKit
set_option linter.unusedVariables false
set_option linter.unusedSimpArgs false
set_option maxRecDepth 100000

structure A33 where
  l : List Key
  h : l.length = 33
structure TreeV where
  count : Nat
  l : List Key
  h : l.length = 32
@[irreducible] def a33C (a : A33) : List Value := rows keyC a.l
@[irreducible] def treeC (t : TreeV) : List Value := .int .u32 t.count :: rows keyC t.l
def zero33 : A33 := ⟨List.replicate 33 zeroKey, by simp⟩
def zeroTree : TreeV := ⟨0, List.replicate 32 zeroKey, by simp⟩
def A33.set (a : A33) (i : Nat) (k : Key) : A33 := ⟨a.l.set i k, by rw [List.length_set]; exact a.h⟩
def TreeV.set (t : TreeV) (i : Nat) (k : Key) : TreeV := ⟨t.count, t.l.set i k, by rw [List.length_set]; exact t.h⟩
theorem rowsKey_row (l : List Key) : isRow (l.length * 32) (rows keyC l) = true := rows_row keyC_row l
@[go_sem] theorem a33C_length (a : A33) : (a33C a).length = 1056 := by unfold a33C; rw [rows_length keyC_length, a.h]
@[go_sem] theorem treeC_length (t : TreeV) : (treeC t).length = 1025 := by unfold treeC; rw [List.length_cons, rows_length keyC_length, t.h]
@[go_sem] theorem a33C_row (a : A33) : isRow 1056 (a33C a) = true := by unfold a33C; have := rowsKey_row a.l; rw [a.h] at this; exact this
@[go_sem] theorem treeC_row (t : TreeV) : isRow 1025 (treeC t) = true := by
  unfold treeC
  have h := rowsKey_row t.l
  rw [t.h] at h
  simp only [isRow, Bool.and_eq_true, decide_eq_true_eq, List.length_cons, List.all_cons] at h ⊢
  exact ⟨by omega, rfl, h.2⟩
theorem load_a33 (ρ : Operand → Value) (dst : Option Tmp) (x : Operand) (t : TypeId) (pos : String) (after : Array Edge) (guard : Option (Nat × Bool)) (w : World) :
    (execOp ρ ⟨dst, .load 40 x, t, pos, after, guard⟩).run Try.prog w = loadTo Try.prog 40 1056 w (ρ x) :=
  exec_load Try.underlying40 rfl (by kernel_rfl) ρ dst x t pos after guard w
theorem store_a33 (ρ : Operand → Value) (dst : Option Tmp) (a x : Operand) (t : TypeId) (pos : String) (after : Array Edge) (guard : Option (Nat × Bool)) (w : World) :
    (execOp ρ ⟨dst, .store 40 a x, t, pos, after, guard⟩).run Try.prog w = storeTo Try.prog 40 1056 w (ρ a) (ρ x) :=
  exec_store (by kernel_rfl) ρ dst a x t pos after guard w
theorem alloc_a33 (ρ : Operand → Value) (dst : Option Tmp) (t : TypeId) (pos : String) (after : Array Edge) (guard : Option (Nat × Bool)) (w : World) :
    (execOp ρ ⟨dst, .alloc 40, t, pos, after, guard⟩).run Try.prog w = .ok (.value (.pointer (some ⟨w.heap.size, 0, none⟩))) (w.alloc (.cells (a33C zero33).toArray 40)) :=
  exec_alloc (by kernel_rfl) ρ dst t pos after guard w
theorem load_tree (ρ : Operand → Value) (dst : Option Tmp) (x : Operand) (t : TypeId) (pos : String) (after : Array Edge) (guard : Option (Nat × Bool)) (w : World) :
    (execOp ρ ⟨dst, .load 28 x, t, pos, after, guard⟩).run Try.prog w = loadTo Try.prog 28 1025 w (ρ x) :=
  exec_load Try.underlying28 rfl (by kernel_rfl) ρ dst x t pos after guard w
theorem store_tree (ρ : Operand → Value) (dst : Option Tmp) (a x : Operand) (t : TypeId) (pos : String) (after : Array Edge) (guard : Option (Nat × Bool)) (w : World) :
    (execOp ρ ⟨dst, .store 28 a x, t, pos, after, guard⟩).run Try.prog w = storeTo Try.prog 28 1025 w (ρ a) (ρ x) :=
  exec_store (by kernel_rfl) ρ dst a x t pos after guard w
theorem alloc_tree (ρ : Operand → Value) (dst : Option Tmp) (t : TypeId) (pos : String) (after : Array Edge) (guard : Option (Nat × Bool)) (w : World) :
    (execOp ρ ⟨dst, .alloc 28, t, pos, after, guard⟩).run Try.prog w = .ok (.value (.pointer (some ⟨w.heap.size, 0, none⟩))) (w.alloc (.cells (treeC zeroTree).toArray 28)) :=
  exec_alloc (by kernel_rfl) ρ dst t pos after guard w
theorem build0_tree (ρ : Operand → Value) (dst : Option Tmp) (t : TypeId) (pos : String) (after : Array Edge) (guard : Option (Nat × Bool)) (w : World) :
    (execOp ρ ⟨dst, .build 28 #[], t, pos, after, guard⟩).run Try.prog w = .ok (.value (.agg (treeC zeroTree).toArray)) w :=
  exec_build0 (fun w => by kernel_rfl) ρ dst t pos after guard w
theorem res_a33 {tmps : Array Value} {a : Nat} {w : World} {b o : Nat} {cs : List Value} (ht : tmps.getD a undef = .pointer (some ⟨b, o, none⟩)) (h : rowOf w b o 1056 = some cs) :
    (oneRes tmps (.cell a 40)).run Try.prog w = .ok (.agg cs.toArray) w := res_cell Try.underlying40 rfl (by kernel_rfl) ht h
theorem res_tree {tmps : Array Value} {a : Nat} {w : World} {b o : Nat} {cs : List Value} (ht : tmps.getD a undef = .pointer (some ⟨b, o, none⟩)) (h : rowOf w b o 1025 = some cs) :
    (oneRes tmps (.cell a 28)).run Try.prog w = .ok (.agg cs.toArray) w := res_cell Try.underlying28 rfl (by kernel_rfl) ht h

/-! ### In memory -/
def A3 (w : World) (b : Nat) (a : A33) : Prop := w.heap[b]? = some (.cells (a33C a).toArray 40 (0, 0))
def TB (w : World) (b : Nat) (t : TreeV) : Prop := w.heap[b]? = some (.cells (treeC t).toArray 28 (0, 0))
theorem A3.lt {w : World} {b : Nat} {a : A33} (h : A3 w b a) : b < w.heap.size := (Array.getElem?_eq_some_iff.1 h).1
theorem TB.lt {w : World} {b : Nat} {a : TreeV} (h : TB w b a) : b < w.heap.size := (Array.getElem?_eq_some_iff.1 h).1
theorem A3.below {w w' : World} {b : Nat} {a : A33} (h : A3 w b a) (hb : Below w.heap.size w w') : A3 w' b a := keepBlock hb h
theorem TB.below {w w' : World} {b : Nat} {a : TreeV} (h : TB w b a) (hb : Below w.heap.size w w') : TB w' b a := keepBlock hb h
theorem A3.row {w : World} {b : Nat} {a : A33} (h : A3 w b a) : rowOf w b 0 1056 = some (a33C a) := by
  rw [rowOf_block h 0 1056 (by simp [a33C_length])]
  congr 1; simp
  exact List.take_of_length_le (by rw [a33C_length]; exact Nat.le_refl _)
theorem TB.row {w : World} {b : Nat} {a : TreeV} (h : TB w b a) : rowOf w b 0 1025 = some (treeC a) := by
  rw [rowOf_block h 0 1025 (by simp [treeC_length])]
  congr 1; simp
  exact List.take_of_length_le (by rw [treeC_length]; exact Nat.le_refl _)
theorem A3.part {w : World} {b : Nat} {a : A33} (h : A3 w b a) {i : Nat} {k : Key} (hi : a.l[i]? = some k) : rowOf w b (i * 32) 32 = some (keyC k) := by
  have hlt : i < 33 := by have := (List.getElem?_eq_some_iff.1 hi).1; rw [a.h] at this; exact this
  have := rowOf_sub h.row (i * 32) 32 (by omega)
  rw [Nat.zero_add] at this
  rw [this]
  unfold a33C
  rw [rows_elem keyC_length hi]
theorem TB.part {w : World} {b : Nat} {a : TreeV} (h : TB w b a) {i : Nat} {k : Key} (hi : a.l[i]? = some k) : rowOf w b (1 + i * 32) 32 = some (keyC k) := by
  have hlt : i < 32 := by have := (List.getElem?_eq_some_iff.1 hi).1; rw [a.h] at this; exact this
  have := rowOf_sub h.row (1 + i * 32) 32 (by omega)
  rw [Nat.zero_add] at this
  rw [this]
  unfold treeC
  rw [Nat.add_comm 1 (i * 32), List.drop_succ_cons, rows_elem keyC_length hi]
theorem TB.count {w : World} {b : Nat} {a : TreeV} (h : TB w b a) : w.cell? ⟨b, 0, none⟩ = some (.int .u32 a.count) ∧ w.frozen? ⟨b, 0, none⟩ = false := by
  refine ⟨?_, frozen_of_row w b 0 _ _ h⟩
  rw [cell_of_row w b 0 _ _ _ h]
  unfold treeC; rfl
theorem keys_split (l : List Key) (i : Nat) (hi : i < l.length) (k : Key) : rows keyC l = rows keyC (l.take i) ++ keyC l[i] ++ rows keyC (l.drop (i + 1)) ∧ rows keyC (l.set i k) = rows keyC (l.take i) ++ keyC k ++ rows keyC (l.drop (i + 1)) := by
  refine ⟨?_, ?_⟩
  · have hs : l = l.take i ++ (l[i] :: l.drop (i + 1)) := by rw [← List.drop_eq_getElem_cons hi, List.take_append_drop]
    conv => lhs; rw [hs]
    rw [rows_append, rows_cons, List.append_assoc]
  · rw [List.set_eq_take_append_cons_drop, if_pos hi, rows_append, rows_cons, List.append_assoc]
theorem A3.put {w : World} {b : Nat} {a : A33} (h : A3 w b a) {i : Nat} (hi : i < 33) (k : Key) : A3 (w.setCells b (i * 32) (keyC k)) b (a.set i k) := by
  have hlt := h.lt
  have hi' : i < a.l.length := by rw [a.h]; exact hi
  obtain ⟨e1, e2⟩ := keys_split a.l i hi' k
  unfold A3 a33C at *
  rw [e1] at h
  have := setCells_append b (keyC k) w (rows keyC (a.l.take i)) (keyC a.l[i]) (rows keyC (a.l.drop (i + 1))) _ (0, 0) (by rw [keyC_length, keyC_length]) h
  rw [rows_length keyC_length, List.length_take, Nat.min_eq_left (by omega)] at this
  rw [this]
  show _ = some (Obj.cells (rows keyC (a.l.set i k)).toArray _ (0, 0))
  rw [e2]
  simp [hlt]
theorem TB.put {w : World} {b : Nat} {a : TreeV} (h : TB w b a) {i : Nat} (hi : i < 32) (k : Key) : TB (w.setCells b (1 + i * 32) (keyC k)) b (a.set i k) := by
  have hlt := h.lt
  have hi' : i < a.l.length := by rw [a.h]; exact hi
  obtain ⟨e1, e2⟩ := keys_split a.l i hi' k
  unfold TB treeC at *
  rw [e1] at h
  have := setCells_append b (keyC k) w (.int .u32 a.count :: rows keyC (a.l.take i)) (keyC a.l[i]) (rows keyC (a.l.drop (i + 1))) _ (0, 0) (by rw [keyC_length, keyC_length]) (by simpa using h)
  rw [List.length_cons, rows_length keyC_length, List.length_take, Nat.min_eq_left (by omega), Nat.add_comm (i * 32) 1] at this
  rw [this]
  show _ = some (Obj.cells (.int .u32 a.count :: rows keyC (a.l.set i k)).toArray _ (0, 0))
  rw [e2]
  simp [hlt]
theorem TB.setCount {w : World} {b : Nat} {a : TreeV} (h : TB w b a) (c : Nat) : TB (w.setCell ⟨b, 0, none⟩ (.int .u32 c)) b ⟨c, a.l, a.h⟩ := by
  unfold TB treeC at *
  simp only [World.setCell, Array.getElem?_modify, if_true, h, Option.map_some]
  simp
theorem A3.can {w : World} {b : Nat} {a : A33} (h : A3 w b a) (o n : Nat) (ho : o + n ≤ 1056) : canPut w b o n = true := canPut_block h o n (by simpa [a33C_length] using ho)
theorem TB.can {w : World} {b : Nat} {a : TreeV} (h : TB w b a) (o n : Nat) (ho : o + n ≤ 1025) : canPut w b o n = true := canPut_block h o n (by simpa [treeC_length] using ho)
end Go.Proofs.Ytabikhmaiennpaa
