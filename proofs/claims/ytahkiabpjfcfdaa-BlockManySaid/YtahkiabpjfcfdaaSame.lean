/- Layer 5: are two transactions the same? (printed by mksame.py) -/
import Derived.Test.YtahkiabpjfcfdaaRef5
import Derived.Test.YtahkiabpjfcfdaaBase
import Derived.WalkLawsBesides
namespace Go.Proofs.Ytahkiabpjfcfdaa
open Go.RowKit
set_option linter.unusedVariables false
set_option linter.unusedSimpArgs false
set_option maxRecDepth 100000

def eqB_pt (a b : PointV) : Bool := (a.tx == b.tx) && (a.idx == b.idx)
def eqB_out (a b : OutV) : Bool := (a.value == b.value) && (a.lock == b.lock)
def eqB_key (a b : Key) : Bool := a == b
theorem eqB_pt_iff (a b : PointV) : eqB_pt a b = true ↔ a = b := by
  unfold eqB_pt
  rw [Bool.and_eq_true, beq_iff_eq, beq_iff_eq]
  constructor
  · rintro ⟨h1, h2⟩; cases a; cases b; simp only at h1 h2; subst h1 h2; rfl
  · rintro rfl; exact ⟨rfl, rfl⟩
theorem eqB_out_iff (a b : OutV) : eqB_out a b = true ↔ a = b := by
  unfold eqB_out
  rw [Bool.and_eq_true, beq_iff_eq, beq_iff_eq]
  constructor
  · rintro ⟨h1, h2⟩; cases a; cases b; simp only at h1 h2; subst h1 h2; rfl
  · rintro rfl; exact ⟨rfl, rfl⟩
theorem eqB_key_iff (a b : Key) : eqB_key a b = true ↔ a = b := beq_iff_eq
def eqL {α : Type} (f : α → α → Bool) : List α → List α → Bool
  | [], [] => true
  | x :: l, y :: m => f x y && eqL f l m
  | _, _ => false
theorem eqL_iff {α : Type} {f : α → α → Bool} (hf : ∀ a b, f a b = true ↔ a = b) : ∀ (l m : List α), eqL f l m = true ↔ l = m
  | [], [] => by simp [eqL]
  | [], _ :: _ => by simp [eqL]
  | _ :: _, [] => by simp [eqL]
  | x :: l, y :: m => by simp [eqL, hf, eqL_iff hf l m]
theorem eqL_false {α : Type} {f : α → α → Bool} (hf : ∀ a b, f a b = true ↔ a = b) {l m : List α} (h : l ≠ m) : eqL f l m = false := by
  cases he : eqL f l m with
  | false => rfl
  | true => exact absurd ((eqL_iff hf l m).1 he) h
theorem ne_of_get {α : Type} {l m : List α} {j : Nat} {x y : α} (h1 : l[j]? = some x) (h2 : m[j]? = some y) (h : x ≠ y) : l ≠ m := by
  rintro rfl
  rw [h1] at h2
  injection h2 with h2
  exact h h2
theorem take_next {α : Type} {l m : List α} {j : Nat} {x y : α} (h1 : l[j]? = some x) (h2 : m[j]? = some y) (h : x = y) (ht : l.take j = m.take j) : l.take (j + 1) = m.take (j + 1) := by
  rw [List.take_add_one, List.take_add_one, h1, h2, h, ht]
/-- Are they the same transaction? -/
@[irreducible] def sameB (d e : TxD) : Bool := (d.exp == e.exp) && ((d.anchor == e.anchor) && ((d.bal == e.bal) && (eqL eqB_pt d.ins e.ins && (eqL eqB_out d.outs e.outs && (eqL eqB_key d.nulls e.nulls && eqL eqB_key d.notes e.notes)))))
theorem sameB_iff (d e : TxD) : sameB d e = true ↔ d = e := by
  unfold sameB
  simp only [Bool.and_eq_true, beq_iff_eq, eqL_iff eqB_pt_iff, eqL_iff eqB_out_iff, eqL_iff eqB_key_iff]
  constructor
  · rintro ⟨h1, h2, h3, h4, h5, h6, h7⟩; cases d; cases e; simp only at *; subst h1 h2 h3 h4 h5 h6 h7; rfl
  · rintro rfl; simp
theorem sameB_self (d : TxD) : sameB d d = true := (sameB_iff d d).2 rfl
theorem sameB_false {d e : TxD} (h : d ≠ e) : sameB d e = false := by
  cases he : sameB d e with
  | false => rfl
  | true => exact absurd ((sameB_iff d e).1 he) h

theorem sm32 (l : List Value) (h : l.length = 32) : ∃ b0 b1 b2 b3 b4 b5 b6 b7 b8 b9 b10 b11 b12 b13 b14 b15 b16 b17 b18 b19 b20 b21 b22 b23 b24 b25 b26 b27 b28 b29 b30 b31, l = [b0, b1, b2, b3, b4, b5, b6, b7, b8, b9, b10, b11, b12, b13, b14, b15, b16, b17, b18, b19, b20, b21, b22, b23, b24, b25, b26, b27, b28, b29, b30, b31] := by
  match l, h with
  | [b0, b1, b2, b3, b4, b5, b6, b7, b8, b9, b10, b11, b12, b13, b14, b15, b16, b17, b18, b19, b20, b21, b22, b23, b24, b25, b26, b27, b28, b29, b30, b31], _ => exact ⟨b0, b1, b2, b3, b4, b5, b6, b7, b8, b9, b10, b11, b12, b13, b14, b15, b16, b17, b18, b19, b20, b21, b22, b23, b24, b25, b26, b27, b28, b29, b30, b31, rfl⟩
theorem sm_key (a b : Key) (w : World) : (Op.equalIn 9999 38 (.agg (keyC a).toArray) (.agg (keyC b).toArray)).run Try.prog w = .ok (a == b) w := by
  have h := run_equalIn_bytes (P := Try.prog) w 9997 38 5 32 Try.underlying38 Try.underlying5 sizeOf_u8 a.1 b.1 a.2 b.2
  have hb : (a.1 == b.1) = (a == b) := by
    rw [Bool.eq_iff_iff, beq_iff_eq, beq_iff_eq]
    exact ⟨Key.ext, fun h => by rw [h]⟩
  unfold keyC
  rw [← hb]
  exact h

theorem smfields_pt : (Try.prog.fieldsOf 59).toList.map (fun f => (f.name, f.type, f.offset)) = [("Tx", 38, 0), ("Index", 34, 32)] := by kernel_rfl
theorem smpart_pt0 (a : PointV) (w : World) : (part 38 (pointC a).toArray 0).run Try.prog w = .ok (Value.agg (keyC a.tx).toArray) w := by
  unfold pointC
  obtain ⟨b0, b1, b2, b3, b4, b5, b6, b7, b8, b9, b10, b11, b12, b13, b14, b15, b16, b17, b18, b19, b20, b21, b22, b23, b24, b25, b26, b27, b28, b29, b30, b31, h⟩ := sm32 (keyC a.tx) (keyC_length a.tx)
  rw [h]
  kernel_rfl
theorem smpart_pt1 (a : PointV) (w : World) : (part 34 (pointC a).toArray 32).run Try.prog w = .ok (Value.int .u32 a.idx) w := by
  unfold pointC
  obtain ⟨b0, b1, b2, b3, b4, b5, b6, b7, b8, b9, b10, b11, b12, b13, b14, b15, b16, b17, b18, b19, b20, b21, b22, b23, b24, b25, b26, b27, b28, b29, b30, b31, h⟩ := sm32 (keyC a.tx) (keyC_length a.tx)
  rw [h]
  kernel_rfl
theorem smrun_pt (a b : PointV) (w : World) : (Op.equalIn 10000 59 (.agg (pointC a).toArray) (.agg (pointC b).toArray)).run Try.prog w = .ok (eqB_pt a b) w := by
  rw [run_equalIn_struct w 9999 _ _ _ (by kernel_rfl) (by kernel_rfl)]
  obtain ⟨f0, f1, hf, h0, h1⟩ : ∃ f0 f1 : Field, (Try.prog.fieldsOf 59).toList = [f0, f1] ∧ (f0.name = "Tx" ∧ f0.type = 38 ∧ f0.offset = 0) ∧ (f1.name = "Index" ∧ f1.type = 34 ∧ f1.offset = 32) := by
    have h := smfields_pt
    revert h
    generalize (Try.prog.fieldsOf 59).toList = l
    intro h
    rcases l with _ | ⟨f0, _ | ⟨f1, _ | ⟨f2, l⟩⟩⟩ <;> simp at h
    exact ⟨f0, f1, rfl, h.1, h.2⟩
  rw [hf]
  simp only [Op.eqFields, h0.1, h0.2.1, h0.2.2, h1.1, h1.2.1, h1.2.2]
  have e0 : (Op.equalIn 9999 38 (.agg (keyC a.tx).toArray) (.agg (keyC b.tx).toArray)).run Try.prog w = .ok (a.tx == b.tx) w := sm_key _ _ w
  have e1 : (Op.equalIn 9999 34 (.int .u32 a.idx) (.int .u32 b.idx)).run Try.prog w = .ok (a.idx == b.idx) w := run_equalIn_int w 9998 _ _ _ _ _ Try.underlying34
  simp only [show ("Tx" ≠ "_") = True from by decide, show ("Index" ≠ "_") = True from by decide, if_true, Sem.run_bind, smpart_pt0, smpart_pt1, e0, e1, Result.andThen_ok, Sem.run_ite, Sem.run_pure]
  unfold eqB_pt
  cases a.tx == b.tx <;> cases a.idx == b.idx <;> simp
theorem eq_pt (ρ : Operand → Value) (op : BinOp) (dst : Option Tmp) (x y : Operand) (ty2 t : TypeId) (pos : String) (after : Array Edge) (guard : Option (Nat × Bool)) (w : World) :
    (execOp ρ ⟨dst, .binOp op 59 x y ty2, t, pos, after, guard⟩).run Try.prog w = eqTo Try.prog op 59 x y w (ρ x) (ρ y) := exec_eq op _ ρ dst x y ty2 t pos after guard w
@[go_sem] theorem neqTo_pt (x y : Operand) (w : World) (a b : PointV) : eqTo Try.prog .neq 59 x y w (.agg (pointC a).toArray) (.agg (pointC b).toArray) = .ok (.value (.bool (!eqB_pt a b))) w := by
  show ((do pure (.value (← (do eqGuard .neq 59 x y (.agg (pointC a).toArray) (.agg (pointC b).toArray); binOp .neq 59 (.agg (pointC a).toArray) (.agg (pointC b).toArray)))) : Sem Next)).run Try.prog w = _
  rw [Sem.run_bind, Sem.run_bind, run_eqGuard_agg _ _ _ _ _ _ _ (by kernel_rfl), Result.andThen_ok, run_neq_struct, smrun_pt]
  rfl

theorem smfields_out : (Try.prog.fieldsOf 101).toList.map (fun f => (f.name, f.type, f.offset)) = [("Value", 2, 0), ("Lock", 38, 1)] := by kernel_rfl
theorem smpart_out0 (a : OutV) (w : World) : (part 2 (outC a).toArray 0).run Try.prog w = .ok (Value.int .i64 a.value) w := by
  unfold outC
  obtain ⟨b0, b1, b2, b3, b4, b5, b6, b7, b8, b9, b10, b11, b12, b13, b14, b15, b16, b17, b18, b19, b20, b21, b22, b23, b24, b25, b26, b27, b28, b29, b30, b31, h⟩ := sm32 (keyC a.lock) (keyC_length a.lock)
  rw [h]
  kernel_rfl
theorem smpart_out1 (a : OutV) (w : World) : (part 38 (outC a).toArray 1).run Try.prog w = .ok (Value.agg (keyC a.lock).toArray) w := by
  unfold outC
  obtain ⟨b0, b1, b2, b3, b4, b5, b6, b7, b8, b9, b10, b11, b12, b13, b14, b15, b16, b17, b18, b19, b20, b21, b22, b23, b24, b25, b26, b27, b28, b29, b30, b31, h⟩ := sm32 (keyC a.lock) (keyC_length a.lock)
  rw [h]
  kernel_rfl
theorem smrun_out (a b : OutV) (w : World) : (Op.equalIn 10000 101 (.agg (outC a).toArray) (.agg (outC b).toArray)).run Try.prog w = .ok (eqB_out a b) w := by
  rw [run_equalIn_struct w 9999 _ _ _ (by kernel_rfl) (by kernel_rfl)]
  obtain ⟨f0, f1, hf, h0, h1⟩ : ∃ f0 f1 : Field, (Try.prog.fieldsOf 101).toList = [f0, f1] ∧ (f0.name = "Value" ∧ f0.type = 2 ∧ f0.offset = 0) ∧ (f1.name = "Lock" ∧ f1.type = 38 ∧ f1.offset = 1) := by
    have h := smfields_out
    revert h
    generalize (Try.prog.fieldsOf 101).toList = l
    intro h
    rcases l with _ | ⟨f0, _ | ⟨f1, _ | ⟨f2, l⟩⟩⟩ <;> simp at h
    exact ⟨f0, f1, rfl, h.1, h.2⟩
  rw [hf]
  simp only [Op.eqFields, h0.1, h0.2.1, h0.2.2, h1.1, h1.2.1, h1.2.2]
  have e0 : (Op.equalIn 9999 2 (.int .i64 a.value) (.int .i64 b.value)).run Try.prog w = .ok (a.value == b.value) w := run_equalIn_int w 9998 _ _ _ _ _ Try.underlying2
  have e1 : (Op.equalIn 9999 38 (.agg (keyC a.lock).toArray) (.agg (keyC b.lock).toArray)).run Try.prog w = .ok (a.lock == b.lock) w := sm_key _ _ w
  simp only [show ("Value" ≠ "_") = True from by decide, show ("Lock" ≠ "_") = True from by decide, if_true, Sem.run_bind, smpart_out0, smpart_out1, e0, e1, Result.andThen_ok, Sem.run_ite, Sem.run_pure]
  unfold eqB_out
  cases a.value == b.value <;> cases a.lock == b.lock <;> simp
theorem eq_out (ρ : Operand → Value) (op : BinOp) (dst : Option Tmp) (x y : Operand) (ty2 t : TypeId) (pos : String) (after : Array Edge) (guard : Option (Nat × Bool)) (w : World) :
    (execOp ρ ⟨dst, .binOp op 101 x y ty2, t, pos, after, guard⟩).run Try.prog w = eqTo Try.prog op 101 x y w (ρ x) (ρ y) := exec_eq op _ ρ dst x y ty2 t pos after guard w
@[go_sem] theorem neqTo_out (x y : Operand) (w : World) (a b : OutV) : eqTo Try.prog .neq 101 x y w (.agg (outC a).toArray) (.agg (outC b).toArray) = .ok (.value (.bool (!eqB_out a b))) w := by
  show ((do pure (.value (← (do eqGuard .neq 101 x y (.agg (outC a).toArray) (.agg (outC b).toArray); binOp .neq 101 (.agg (outC a).toArray) (.agg (outC b).toArray)))) : Sem Next)).run Try.prog w = _
  rw [Sem.run_bind, Sem.run_bind, run_eqGuard_agg _ _ _ _ _ _ _ (by kernel_rfl), Result.andThen_ok, run_neq_struct, smrun_out]
  rfl

attribute [local irreducible] Int.lt Int.le
attribute [local go_sem ↓] load_key store_key alloc_key build0_key eq_key load_point store_point alloc_point load_out store_out alloc_out load_tx store_tx alloc_tx eq_pt eq_out
attribute [local go_sem] rowOf_drew rowOf_alloc_old rowOf_alloc_new canPut_drew canPut_alloc_old canPut_alloc_new setCells_alloc_new




/-- Two transactions' cells. -/
theorem two_tx {W : World} {t u : TxV} : ((W.alloc (.cells (txC t).toArray 41)).alloc (.cells (txC u).toArray 41)).heap[W.heap.size]? = some (.cells (txC t).toArray 41 (0, 0)) ∧
    ((W.alloc (.cells (txC t).toArray 41)).alloc (.cells (txC u).toArray 41)).heap[W.heap.size + 1]? = some (.cells (txC u).toArray 41 (0, 0)) :=
  ⟨by rw [Below.heap_alloc _ _ _ (by simp)]; exact heap_alloc_new W _, by have := heap_alloc_new (W.alloc (.cells (txC t).toArray 41)) (.cells (txC u).toArray 41); rw [World.size_alloc] at this; exact this⟩



end Go.Proofs.Ytahkiabpjfcfdaa
