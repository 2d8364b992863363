/- A transaction as a value: its cells; the rules of its types. -/
import Derived.Test.YtahkiabpjfcfdaaKey
namespace Go.Proofs.Ytahkiabpjfcfdaa
set_option maxRecDepth 100000
open Go.RowKit

structure PointV where
  tx : Key
  idx : Int
structure OutV where
  value : Int
  lock : Key
/-- A slice's three numbers. -/
structure Sl where
  a : Option Addr
  len : Nat
  cap : Nat
structure TxV where
  exp : Int
  ins : Sl
  outs : Sl
  anchor : Key
  nulls : Sl
  notes : Sl
  bal : Int

@[irreducible] def pointC (p : PointV) : List Value := keyC p.tx ++ [.int .u32 p.idx]
@[irreducible] def outC (o : OutV) : List Value := .int .i64 o.value :: keyC o.lock
@[irreducible] def txC (t : TxV) : List Value := .int .u32 t.exp :: .slice t.ins.a t.ins.len t.ins.cap :: .slice t.outs.a t.outs.len t.outs.cap :: (keyC t.anchor ++ [.slice t.nulls.a t.nulls.len t.nulls.cap, .slice t.notes.a t.notes.len t.notes.cap, .int .i64 t.bal])
def Sl.nil : Sl := ⟨none, 0, 0⟩
def zeroPoint : PointV := ⟨zeroKey, 0⟩
def zeroOut : OutV := ⟨0, zeroKey⟩
def zeroTx : TxV := ⟨0, .nil, .nil, zeroKey, .nil, .nil, 0⟩

@[go_sem] theorem pointC_length (p : PointV) : (pointC p).length = 33 := by unfold pointC; simp [keyC_length]
@[go_sem] theorem outC_length (p : OutV) : (outC p).length = 33 := by unfold outC; simp [keyC_length]
@[go_sem] theorem txC_length (t : TxV) : (txC t).length = 38 := by unfold txC; simp [keyC_length]
theorem isRow_append {n : Nat} {l r : List Value} (h : isRow n l = true) (hr : r.all (·.oneCell') = true) : isRow (n + r.length) (l ++ r) = true := by
  simp only [isRow, Bool.and_eq_true, decide_eq_true_eq, List.length_append, List.all_append] at h ⊢
  exact ⟨by omega, h.2, hr⟩
theorem isRow_before {n : Nat} {l r : List Value} (h : isRow n r = true) (hr : l.all (·.oneCell') = true) : isRow (l.length + n) (l ++ r) = true := by
  simp only [isRow, Bool.and_eq_true, decide_eq_true_eq, List.length_append, List.all_append] at h ⊢
  exact ⟨by omega, hr, h.2⟩
@[go_sem] theorem pointC_row (p : PointV) : isRow 33 (pointC p) = true := by unfold pointC; exact isRow_append (keyC_row _) rfl
@[go_sem] theorem outC_row (p : OutV) : isRow 33 (outC p) = true := by unfold outC; exact isRow_before (l := [_]) (keyC_row _) rfl
@[go_sem] theorem txC_row (t : TxV) : isRow 38 (txC t) = true := by unfold txC; exact isRow_before (l := [_, _, _]) (isRow_append (keyC_row _) (r := [_, _, _]) rfl) rfl

theorem at_mid (l r : List Value) (j : Nat) (h : l.length = 32) : (l ++ r)[32 + j]? = r[j]? := by
  rw [List.getElem?_append_right (by omega), h, Nat.add_sub_cancel_left]
@[go_sem] theorem txC_0 (t : TxV) : (txC t)[0]? = some (.int .u32 t.exp) := by unfold txC; rfl
@[go_sem] theorem txC_1 (t : TxV) : (txC t)[1]? = some (.slice t.ins.a t.ins.len t.ins.cap) := by unfold txC; rfl
@[go_sem] theorem txC_2 (t : TxV) : (txC t)[2]? = some (.slice t.outs.a t.outs.len t.outs.cap) := by unfold txC; rfl
@[go_sem] theorem txC_35 (t : TxV) : (txC t)[35]? = some (.slice t.nulls.a t.nulls.len t.nulls.cap) := by unfold txC; exact at_mid _ _ 0 (keyC_length _)
@[go_sem] theorem txC_36 (t : TxV) : (txC t)[36]? = some (.slice t.notes.a t.notes.len t.notes.cap) := by unfold txC; exact at_mid _ _ 1 (keyC_length _)
@[go_sem] theorem txC_37 (t : TxV) : (txC t)[37]? = some (.int .i64 t.bal) := by unfold txC; exact at_mid _ _ 2 (keyC_length _)
theorem txC_g0 (t : TxV) (h : 0 < (txC t).length) : (txC t)[0] = .int .u32 t.exp := Option.some.inj ((List.getElem?_eq_getElem h).symm.trans (txC_0 t))
theorem txC_g1 (t : TxV) (h : 1 < (txC t).length) : (txC t)[1] = .slice t.ins.a t.ins.len t.ins.cap := Option.some.inj ((List.getElem?_eq_getElem h).symm.trans (txC_1 t))
theorem txC_g2 (t : TxV) (h : 2 < (txC t).length) : (txC t)[2] = .slice t.outs.a t.outs.len t.outs.cap := Option.some.inj ((List.getElem?_eq_getElem h).symm.trans (txC_2 t))
theorem txC_g35 (t : TxV) (h : 35 < (txC t).length) : (txC t)[35] = .slice t.nulls.a t.nulls.len t.nulls.cap := Option.some.inj ((List.getElem?_eq_getElem h).symm.trans (txC_35 t))
theorem txC_g36 (t : TxV) (h : 36 < (txC t).length) : (txC t)[36] = .slice t.notes.a t.notes.len t.notes.cap := Option.some.inj ((List.getElem?_eq_getElem h).symm.trans (txC_36 t))
theorem txC_g37 (t : TxV) (h : 37 < (txC t).length) : (txC t)[37] = .int .i64 t.bal := Option.some.inj ((List.getElem?_eq_getElem h).symm.trans (txC_37 t))
attribute [go_sem] txC_g0 txC_g1 txC_g2 txC_g35 txC_g36 txC_g37
@[go_sem] theorem txC_set1 (t : TxV) (a : Option Addr) (l c : Nat) : (txC t).set 1 (.slice a l c) = txC { t with ins := ⟨a, l, c⟩ } := by unfold txC; rfl
@[go_sem] theorem txC_set2 (t : TxV) (a : Option Addr) (l c : Nat) : (txC t).set 2 (.slice a l c) = txC { t with outs := ⟨a, l, c⟩ } := by unfold txC; rfl
theorem set_mid (l r : List Value) (j : Nat) (v : Value) (h : l.length = 32) : (l ++ r).set (32 + j) v = l ++ r.set j v := by
  rw [List.set_append, if_neg (by omega), h, Nat.add_sub_cancel_left]
theorem txC_set35 (t : TxV) (a : Option Addr) (l c : Nat) : (txC t).set 35 (.slice a l c) = txC { t with nulls := ⟨a, l, c⟩ } := by
  unfold txC; exact congrArg (fun l => _ :: _ :: _ :: l) (set_mid _ _ 0 _ (keyC_length _))
theorem txC_set36 (t : TxV) (a : Option Addr) (l c : Nat) : (txC t).set 36 (.slice a l c) = txC { t with notes := ⟨a, l, c⟩ } := by
  unfold txC; exact congrArg (fun l => _ :: _ :: _ :: l) (set_mid _ _ 1 _ (keyC_length _))
attribute [go_sem] txC_set35 txC_set36

theorem load_point (ρ : Operand → Value) (dst : Option Tmp) (x : Operand) (t : TypeId) (pos : String) (after : Array Edge) (guard : Option (Nat × Bool)) (w : World) :
    (execOp ρ ⟨dst, .load 59 x, t, pos, after, guard⟩).run Try.prog w = loadTo Try.prog 59 33 w (ρ x) :=
  exec_load Try.underlying59 rfl (by kernel_rfl) ρ dst x t pos after guard w
theorem store_point (ρ : Operand → Value) (dst : Option Tmp) (a x : Operand) (t : TypeId) (pos : String) (after : Array Edge) (guard : Option (Nat × Bool)) (w : World) :
    (execOp ρ ⟨dst, .store 59 a x, t, pos, after, guard⟩).run Try.prog w = storeTo Try.prog 59 33 w (ρ a) (ρ x) :=
  exec_store (by kernel_rfl) ρ dst a x t pos after guard w
theorem alloc_point (ρ : Operand → Value) (dst : Option Tmp) (t : TypeId) (pos : String) (after : Array Edge) (guard : Option (Nat × Bool)) (w : World) :
    (execOp ρ ⟨dst, .alloc 59, t, pos, after, guard⟩).run Try.prog w = .ok (.value (.pointer (some ⟨w.heap.size, 0, none⟩))) (w.alloc (.cells (pointC zeroPoint).toArray 59)) :=
  exec_alloc (by kernel_rfl) ρ dst t pos after guard w
theorem build0_point (ρ : Operand → Value) (dst : Option Tmp) (t : TypeId) (pos : String) (after : Array Edge) (guard : Option (Nat × Bool)) (w : World) :
    (execOp ρ ⟨dst, .build 59 #[], t, pos, after, guard⟩).run Try.prog w = .ok (.value (.agg (pointC zeroPoint).toArray)) w :=
  exec_build0 (fun w => by kernel_rfl) ρ dst t pos after guard w
theorem info_point : ∃ i, Try.prog.info? 59 = some i ∧ i.size = 33 ∧ i.zero = some (.agg (pointC zeroPoint).toArray) := by
  have h : (Try.prog.info? 59).map (fun i => (i.size, i.zero)) = some (33, some (.agg (pointC zeroPoint).toArray)) := by kernel_rfl
  obtain ⟨i, hi, h'⟩ := Option.map_eq_some_iff.1 h
  exact ⟨i, hi, congrArg Prod.fst h', congrArg Prod.snd h'⟩
theorem one_point (ρ : Operand → Value) (dst : Option Tmp) (x : Operand) (t : TypeId) (pos : String) (after : Array Edge) (guard : Option (Nat × Bool)) (w : World) :
    (execOp ρ ⟨dst, .buildSlice 35 1 #[(0, x)], t, pos, after, guard⟩).run Try.prog w = oneTo Try.prog 35 59 33 w (ρ x) := by
  obtain ⟨i, hi, hs, hz⟩ := info_point
  exact exec_one Try.underlying35 hi hs (by omega) (by omega) hz (by simp [go_sem]) ρ dst x t pos after guard w
theorem load_out (ρ : Operand → Value) (dst : Option Tmp) (x : Operand) (t : TypeId) (pos : String) (after : Array Edge) (guard : Option (Nat × Bool)) (w : World) :
    (execOp ρ ⟨dst, .load 101 x, t, pos, after, guard⟩).run Try.prog w = loadTo Try.prog 101 33 w (ρ x) :=
  exec_load Try.underlying101 rfl (by kernel_rfl) ρ dst x t pos after guard w
theorem store_out (ρ : Operand → Value) (dst : Option Tmp) (a x : Operand) (t : TypeId) (pos : String) (after : Array Edge) (guard : Option (Nat × Bool)) (w : World) :
    (execOp ρ ⟨dst, .store 101 a x, t, pos, after, guard⟩).run Try.prog w = storeTo Try.prog 101 33 w (ρ a) (ρ x) :=
  exec_store (by kernel_rfl) ρ dst a x t pos after guard w
theorem alloc_out (ρ : Operand → Value) (dst : Option Tmp) (t : TypeId) (pos : String) (after : Array Edge) (guard : Option (Nat × Bool)) (w : World) :
    (execOp ρ ⟨dst, .alloc 101, t, pos, after, guard⟩).run Try.prog w = .ok (.value (.pointer (some ⟨w.heap.size, 0, none⟩))) (w.alloc (.cells (outC zeroOut).toArray 101)) :=
  exec_alloc (by kernel_rfl) ρ dst t pos after guard w
theorem build0_out (ρ : Operand → Value) (dst : Option Tmp) (t : TypeId) (pos : String) (after : Array Edge) (guard : Option (Nat × Bool)) (w : World) :
    (execOp ρ ⟨dst, .build 101 #[], t, pos, after, guard⟩).run Try.prog w = .ok (.value (.agg (outC zeroOut).toArray)) w :=
  exec_build0 (fun w => by kernel_rfl) ρ dst t pos after guard w
theorem info_out : ∃ i, Try.prog.info? 101 = some i ∧ i.size = 33 ∧ i.zero = some (.agg (outC zeroOut).toArray) := by
  have h : (Try.prog.info? 101).map (fun i => (i.size, i.zero)) = some (33, some (.agg (outC zeroOut).toArray)) := by kernel_rfl
  obtain ⟨i, hi, h'⟩ := Option.map_eq_some_iff.1 h
  exact ⟨i, hi, congrArg Prod.fst h', congrArg Prod.snd h'⟩
theorem one_out (ρ : Operand → Value) (dst : Option Tmp) (x : Operand) (t : TypeId) (pos : String) (after : Array Edge) (guard : Option (Nat × Bool)) (w : World) :
    (execOp ρ ⟨dst, .buildSlice 36 1 #[(0, x)], t, pos, after, guard⟩).run Try.prog w = oneTo Try.prog 36 101 33 w (ρ x) := by
  obtain ⟨i, hi, hs, hz⟩ := info_out
  exact exec_one Try.underlying36 hi hs (by omega) (by omega) hz (by simp [go_sem]) ρ dst x t pos after guard w
theorem load_tx (ρ : Operand → Value) (dst : Option Tmp) (x : Operand) (t : TypeId) (pos : String) (after : Array Edge) (guard : Option (Nat × Bool)) (w : World) :
    (execOp ρ ⟨dst, .load 41 x, t, pos, after, guard⟩).run Try.prog w = loadTo Try.prog 41 38 w (ρ x) :=
  exec_load Try.underlying41 rfl (by kernel_rfl) ρ dst x t pos after guard w
theorem store_tx (ρ : Operand → Value) (dst : Option Tmp) (a x : Operand) (t : TypeId) (pos : String) (after : Array Edge) (guard : Option (Nat × Bool)) (w : World) :
    (execOp ρ ⟨dst, .store 41 a x, t, pos, after, guard⟩).run Try.prog w = storeTo Try.prog 41 38 w (ρ a) (ρ x) :=
  exec_store (by kernel_rfl) ρ dst a x t pos after guard w
theorem alloc_tx (ρ : Operand → Value) (dst : Option Tmp) (t : TypeId) (pos : String) (after : Array Edge) (guard : Option (Nat × Bool)) (w : World) :
    (execOp ρ ⟨dst, .alloc 41, t, pos, after, guard⟩).run Try.prog w = .ok (.value (.pointer (some ⟨w.heap.size, 0, none⟩))) (w.alloc (.cells (txC zeroTx).toArray 41)) :=
  exec_alloc (by kernel_rfl) ρ dst t pos after guard w
theorem build0_tx (ρ : Operand → Value) (dst : Option Tmp) (t : TypeId) (pos : String) (after : Array Edge) (guard : Option (Nat × Bool)) (w : World) :
    (execOp ρ ⟨dst, .build 41 #[], t, pos, after, guard⟩).run Try.prog w = .ok (.value (.agg (txC zeroTx).toArray)) w :=
  exec_build0 (fun w => by kernel_rfl) ρ dst t pos after guard w
theorem info_tx : ∃ i, Try.prog.info? 41 = some i ∧ i.size = 38 ∧ i.zero = some (.agg (txC zeroTx).toArray) := by
  have h : (Try.prog.info? 41).map (fun i => (i.size, i.zero)) = some (38, some (.agg (txC zeroTx).toArray)) := by kernel_rfl
  obtain ⟨i, hi, h'⟩ := Option.map_eq_some_iff.1 h
  exact ⟨i, hi, congrArg Prod.fst h', congrArg Prod.snd h'⟩
theorem one_tx (ρ : Operand → Value) (dst : Option Tmp) (x : Operand) (t : TypeId) (pos : String) (after : Array Edge) (guard : Option (Nat × Bool)) (w : World) :
    (execOp ρ ⟨dst, .buildSlice 48 1 #[(0, x)], t, pos, after, guard⟩).run Try.prog w = oneTo Try.prog 48 41 38 w (ρ x) := by
  obtain ⟨i, hi, hs, hz⟩ := info_tx
  exact exec_one Try.underlying48 hi hs (by omega) (by omega) hz (by simp [go_sem]) ρ dst x t pos after guard w

end Go.Proofs.Ytahkiabpjfcfdaa
