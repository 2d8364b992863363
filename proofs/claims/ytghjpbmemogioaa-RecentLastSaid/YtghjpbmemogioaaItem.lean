/- Items: their cells, and the rules of their type, in this seat's numbers. -/
import Derived.Test.YtghjpbmemogioaaKey
import Derived.Test.YtghjpbmemogioaaBase
import Derived.Laws.StructEq
namespace Go.Proofs.Ytghjpbmemogioaa
set_option maxRecDepth 100000
open Go.RowKit
set_option linter.unusedVariables false
set_option linter.unusedSimpArgs false

structure ItemV where
  id : Key
  at_ : Int
@[irreducible] def itC (v : ItemV) : List Value := keyC v.id ++ [Value.int .u64 v.at_]
@[go_sem] theorem itC_length (v : ItemV) : (itC v).length = 33 := by unfold itC; simp [keyC_length]
@[go_sem] theorem itC_row (v : ItemV) : isRow 33 (itC v) = true := by
  have h := keyC_row v.id
  simp only [isRow, Bool.and_eq_true, decide_eq_true_eq] at h ⊢
  refine ⟨itC_length v, ?_⟩
  unfold itC
  simp only [List.all_append, List.all_cons, h.2]
  rfl
def zeroItem : ItemV := ⟨zeroKey, 0⟩
theorem list32 {α : Type} (l : List α) (h : l.length = 32) : ∃ b0 b1 b2 b3 b4 b5 b6 b7 b8 b9 b10 b11 b12 b13 b14 b15 b16 b17 b18 b19 b20 b21 b22 b23 b24 b25 b26 b27 b28 b29 b30 b31, l = [b0, b1, b2, b3, b4, b5, b6, b7, b8, b9, b10, b11, b12, b13, b14, b15, b16, b17, b18, b19, b20, b21, b22, b23, b24, b25, b26, b27, b28, b29, b30, b31] := by
  match l, h with
  | [b0, b1, b2, b3, b4, b5, b6, b7, b8, b9, b10, b11, b12, b13, b14, b15, b16, b17, b18, b19, b20, b21, b22, b23, b24, b25, b26, b27, b28, b29, b30, b31], _ => exact ⟨b0, b1, b2, b3, b4, b5, b6, b7, b8, b9, b10, b11, b12, b13, b14, b15, b16, b17, b18, b19, b20, b21, b22, b23, b24, b25, b26, b27, b28, b29, b30, b31, rfl⟩
def itB (a b : ItemV) : Bool := (a.id == b.id) && (a.at_ == b.at_)
abbrev IL (w : World) (a : Option Addr) (n c : Nat) (l : List ItemV) : Prop := SL itC 33 w a n c l
theorem load_it (ρ : Operand → Value) (dst : Option Tmp) (x : Operand) (t : TypeId) (pos : String) (after : Array Edge) (guard : Option (Nat × Bool)) (w : World) :
    (execOp ρ ⟨dst, .load 55 x, t, pos, after, guard⟩).run Try.prog w = loadTo Try.prog 55 33 w (ρ x) :=
  exec_load Try.underlying55 rfl (by kernel_rfl) ρ dst x t pos after guard w
theorem store_it (ρ : Operand → Value) (dst : Option Tmp) (a x : Operand) (t : TypeId) (pos : String) (after : Array Edge) (guard : Option (Nat × Bool)) (w : World) :
    (execOp ρ ⟨dst, .store 55 a x, t, pos, after, guard⟩).run Try.prog w = storeTo Try.prog 55 33 w (ρ a) (ρ x) :=
  exec_store (by kernel_rfl) ρ dst a x t pos after guard w
theorem alloc_it (ρ : Operand → Value) (dst : Option Tmp) (t : TypeId) (pos : String) (after : Array Edge) (guard : Option (Nat × Bool)) (w : World) :
    (execOp ρ ⟨dst, .alloc 55, t, pos, after, guard⟩).run Try.prog w = .ok (.value (.pointer (some ⟨w.heap.size, 0, none⟩))) (w.alloc (.cells (itC zeroItem).toArray 55)) :=
  exec_alloc (by kernel_rfl) ρ dst t pos after guard w
theorem build0_it (ρ : Operand → Value) (dst : Option Tmp) (t : TypeId) (pos : String) (after : Array Edge) (guard : Option (Nat × Bool)) (w : World) :
    (execOp ρ ⟨dst, .build 55 #[], t, pos, after, guard⟩).run Try.prog w = .ok (.value (.agg (itC zeroItem).toArray)) w :=
  exec_build0 (fun w => by kernel_rfl) ρ dst t pos after guard w
theorem infos_it : ∃ i, Try.prog.info? 55 = some i ∧ i.size = 33 ∧ i.bytes = 40 ∧ i.zero = some (.agg (itC zeroItem).toArray) := by
  have h : (Try.prog.info? 55).map (fun i => (i.size, i.bytes, i.zero)) = some (33, 40, some (.agg (itC zeroItem).toArray)) := by kernel_rfl
  obtain ⟨i, hi, h'⟩ := Option.map_eq_some_iff.1 h
  simp only [Prod.mk.injEq] at h'
  exact ⟨i, hi, h'.1, h'.2.1, h'.2.2⟩
theorem sizeOf_it (w : World) : (sizeOf 55).run Try.prog w = .ok 33 w := by kernel_rfl
theorem zero_it (w : World) : (zeroValue 55).run Try.prog w = .ok (.agg (itC zeroItem).toArray) w := by
  obtain ⟨i, hi, _, _, hz⟩ := infos_it
  simp [zeroValue, typeInfo, hi, hz]
theorem one_it (ρ : Operand → Value) (dst : Option Tmp) (x : Operand) (t : TypeId) (pos : String) (after : Array Edge) (guard : Option (Nat × Bool)) (w : World) :
    (execOp ρ ⟨dst, .buildSlice 38 1 #[(0, x)], t, pos, after, guard⟩).run Try.prog w = oneTo Try.prog 38 55 33 w (ρ x) := by
  obtain ⟨i, hi, hs, _, hz⟩ := infos_it
  exact exec_one Try.underlying38 hi hs (by omega) (by omega) hz (by simp [go_sem]) ρ dst x t pos after guard w
theorem make_it (ρ : Operand → Value) (dst : Option Tmp) (x y : Operand) (t : TypeId) (pos : String) (after : Array Edge) (guard : Option (Nat × Bool)) (w : World) :
    (execOp ρ ⟨dst, .makeSlice 38 x y, t, pos, after, guard⟩).run Try.prog w = makeTo Try.prog 38 55 (fun k => rows itC (List.replicate k zeroItem)) w (ρ x) (ρ y) := by
  obtain ⟨i, hi, hs, hb, hz⟩ := infos_it
  exact exec_make Try.underlying38 hi hs hb hz (itC_length _) (by omega) (by omega) ρ dst x y t pos after guard w
theorem append_it (ρ : Operand → Value) (dst : Option Tmp) (x y : Operand) (ty : TypeId) (pos : String) (after : Array Edge) (guard : Option (Nat × Bool)) (w : World) :
    (execOp ρ ⟨dst, .call { callee := .builtin .append, args := #[x, y], argTypes := #[38, 38] }, ty, pos, after, guard⟩).run Try.prog w = appTo Try.prog 38 ty w (ρ x) (ρ y) :=
  exec_append _ ty ρ dst x y pos after guard w
theorem copy_it (ρ : Operand → Value) (dst : Option Tmp) (x y : Operand) (ty : TypeId) (pos : String) (after : Array Edge) (guard : Option (Nat × Bool)) (w : World) :
    (execOp ρ ⟨dst, .call { callee := .builtin .copy, args := #[x, y], argTypes := #[38, 38] }, ty, pos, after, guard⟩).run Try.prog w = copyTo Try.prog 38 ty 33 w (ρ x) (ρ y) :=
  exec_copy Try.underlying38 sizeOf_it ρ dst x y pos after guard w
abbrev IOwn (w : World) (base : Nat) (v : Value) (l : List ItemV) : Prop := Own itC 33 55 w base v l
/-- 'append' of any elements to a slice of the call's own. -/
theorem app_it {w : World} {base : Nat} {u : Option Addr} {n0 c0 : Nat} {l : List ItemV} {ty : TypeId} (hown : IOwn w base (.slice u n0 c0) l) (hbase : base ≤ w.heap.size) (a : Option Addr) (n cap : Nat) (m : List ItemV) (hm : SL itC 33 w a n cap m) (hlen : l.length + m.length ≤ 2000000) :
    ∃ u' n' c' w', appTo Try.prog 38 ty w (.slice u n0 c0) (.slice a n cap) = .ok (.value (.slice u' n' c')) w' ∧ IOwn w' base (.slice u' n' c') (l ++ m) ∧ Below base w w' ∧ w.heap.size ≤ w'.heap.size ∧ n' = l.length + m.length ∧ (∀ b, b < w.heap.size → some b ≠ (Value.slice u n0 c0).ownBlock → w'.heap[b]? = w.heap[b]?) := by
  obtain rfl := hm.1
  by_cases hne : m = []
  · subst hne
    have hs := hown.sl'
    refine ⟨u, n0, c0, w, appTo_none Try.underlying38 sizeOf_it u n0 c0 hs.2.2.1 hs.2.2.2.2.1 a cap, by rw [List.append_nil]; exact hown, Below.refl _ _, Nat.le_refl _, hs.1, fun _ _ _ => rfl⟩
  · obtain ⟨i, hi, hs, hb, hz⟩ := infos_it
    obtain ⟨g, cap', w1, hap, hown', hgr, _⟩ := appTo_own (ty := ty) Try.underlying38 hi hs hb hz itC_length (by omega) itC_row (by omega) hown hbase a cap m hm hne hlen
    have hbl := grown_below hgr hown.ownBlock_le hbase
    exact ⟨_, _, _, w1, hap, hown', hbl, hgr.size, rfl, fun b hb hbo => hgr.block b hb hbo⟩
def build_itTo (P : Program) (w : World) (u v : Value) : Result Next := (do pure (.value (← Instr.build 55 #[(0, u), (1, v)])) : Sem Next).run P w
theorem build_it (ρ : Operand → Value) (dst : Option Tmp) (x y : Operand) (t : TypeId) (pos : String) (after : Array Edge) (guard : Option (Nat × Bool)) (w : World) :
    (execOp ρ ⟨dst, .build 55 #[(0, x), (1, y)], t, pos, after, guard⟩).run Try.prog w = build_itTo Try.prog w (ρ x) (ρ y) := by simp [execOp, build_itTo]
theorem run_build_it (u : Key) (v : Int) (w : World) : (Instr.build 55 #[(0, Value.agg (keyC u).toArray), (1, Value.int .u64 v)]).run Try.prog w = .ok (.agg (itC ⟨u, v⟩).toArray) w := by
  obtain ⟨b0, b1, b2, b3, b4, b5, b6, b7, b8, b9, b10, b11, b12, b13, b14, b15, b16, b17, b18, b19, b20, b21, b22, b23, b24, b25, b26, b27, b28, b29, b30, b31, h⟩ := list32 (keyC u) (keyC_length u)
  unfold itC
  show (Instr.build 55 #[(0, Value.agg (keyC u).toArray), (1, Value.int .u64 v)]).run Try.prog w = .ok (Value.agg (keyC u ++ [Value.int .u64 v]).toArray) w
  rw [h]
  kernel_rfl
@[go_sem] theorem build_itTo_lit (u : Key) (v : Int) (w : World) : build_itTo Try.prog w (Value.agg (keyC u).toArray) (Value.int .u64 v) = .ok (.value (.agg (itC ⟨u, v⟩).toArray)) w := by
  unfold build_itTo
  rw [Sem.run_bind, run_build_it]
  rfl
theorem eq_it (ρ : Operand → Value) (op : BinOp) (dst : Option Tmp) (x y : Operand) (ty2 t : TypeId) (pos : String) (after : Array Edge) (guard : Option (Nat × Bool)) (w : World) :
    (execOp ρ ⟨dst, .binOp op 55 x y ty2, t, pos, after, guard⟩).run Try.prog w = eqTo Try.prog op 55 x y w (ρ x) (ρ y) := exec_eq op _ ρ dst x y ty2 t pos after guard w
theorem fields_it : (Try.prog.fieldsOf 55).toList.map (fun f => (f.name, f.type, f.offset)) = [("Id", 40, 0), ("At", 41, 32)] := by kernel_rfl
theorem part_it0 (a : ItemV) (w : World) : (part 40 (itC a).toArray 0).run Try.prog w = .ok (Value.agg (keyC a.id).toArray) w := by
  unfold itC
  obtain ⟨b0, b1, b2, b3, b4, b5, b6, b7, b8, b9, b10, b11, b12, b13, b14, b15, b16, b17, b18, b19, b20, b21, b22, b23, b24, b25, b26, b27, b28, b29, b30, b31, h⟩ := list32 (keyC a.id) (keyC_length a.id)
  rw [h]
  kernel_rfl
theorem part_it1 (a : ItemV) (w : World) : (part 41 (itC a).toArray 32).run Try.prog w = .ok (Value.int .u64 a.at_) w := by
  unfold itC
  obtain ⟨b0, b1, b2, b3, b4, b5, b6, b7, b8, b9, b10, b11, b12, b13, b14, b15, b16, b17, b18, b19, b20, b21, b22, b23, b24, b25, b26, b27, b28, b29, b30, b31, h⟩ := list32 (keyC a.id) (keyC_length a.id)
  rw [h]
  kernel_rfl
theorem run_eql_it (a b : ItemV) (w : World) : (binOp .eql 55 (.agg (itC a).toArray) (.agg (itC b).toArray)).run Try.prog w = .ok (.bool (itB a b)) w := by
  rw [run_eql_struct, run_equalIn_struct w 9999 _ _ _ (by kernel_rfl) (by kernel_rfl)]
  obtain ⟨f0, f1, hf, h0, h1⟩ : ∃ f0 f1 : Field, (Try.prog.fieldsOf 55).toList = [f0, f1] ∧ (f0.name = "Id" ∧ f0.type = 40 ∧ f0.offset = 0) ∧ (f1.name = "At" ∧ f1.type = 41 ∧ f1.offset = 32) := by
    have h := fields_it
    revert h
    generalize (Try.prog.fieldsOf 55).toList = l
    intro h
    rcases l with _ | ⟨f0, _ | ⟨f1, _ | ⟨f2, l⟩⟩⟩ <;> simp at h
    exact ⟨f0, f1, rfl, h.1, h.2⟩
  rw [hf]
  simp only [Op.eqFields, h0.1, h0.2.1, h0.2.2, h1.1, h1.2.1, h1.2.2]
  have e0 : (Op.equalIn 9999 40 (.agg (keyC a.id).toArray) (.agg (keyC b.id).toArray)).run Try.prog w = .ok (a.id == b.id) w := by
    have h := run_equalIn_bytes (P := Try.prog) w 9997 40 5 32 Try.underlying40 Try.underlying5 sizeOf_u8 a.id.1 b.id.1 a.id.2 b.id.2
    have hb : (a.id.1 == b.id.1) = (a.id == b.id) := by
      rw [Bool.eq_iff_iff, beq_iff_eq, beq_iff_eq]
      exact ⟨Key.ext, fun h => by rw [h]⟩
    unfold keyC
    rw [← hb]
    exact h
  have e1 : (Op.equalIn 9999 41 (.int .u64 a.at_) (.int .u64 b.at_)).run Try.prog w = .ok (a.at_ == b.at_) w := run_equalIn_int w 9998 _ _ _ _ _ Try.underlying41
  simp only [show ("Id" ≠ "_") = True from by decide, show ("At" ≠ "_") = True from by decide, if_true, Sem.run_bind, part_it0, part_it1, e0, e1, Result.andThen_ok, Sem.run_ite, Sem.run_pure]
  unfold itB
  cases a.id == b.id <;> cases a.at_ == b.at_ <;> simp
@[go_sem] theorem eqTo_it (x y : Operand) (w : World) (a b : ItemV) : eqTo Try.prog .eql 55 x y w (.agg (itC a).toArray) (.agg (itC b).toArray) = .ok (.value (.bool (itB a b))) w := by
  show ((do pure (.value (← (do eqGuard .eql 55 x y (.agg (itC a).toArray) (.agg (itC b).toArray); binOp .eql 55 (.agg (itC a).toArray) (.agg (itC b).toArray)))) : Sem Next)).run Try.prog w = _
  rw [Sem.run_bind, Sem.run_bind, run_eqGuard_agg _ _ _ _ _ _ _ (by kernel_rfl), Result.andThen_ok, run_eql_it]
  rfl
theorem run_neq_it (a b : ItemV) (w : World) : (binOp .neq 55 (.agg (itC a).toArray) (.agg (itC b).toArray)).run Try.prog w = .ok (.bool (!itB a b)) w := by
  have h := run_eql_it a b w
  rw [run_eql_struct] at h
  rw [run_neq_struct]
  revert h
  generalize (Op.equalIn 10000 55 (.agg (itC a).toArray) (.agg (itC b).toArray)).run Try.prog w = r
  intro h
  cases r with
  | ok c w' =>
    simp only [Result.andThen_ok] at h ⊢
    injection h with h1 h2
    injection h1 with h1
    rw [h1, h2]
  | halt c w' => simp [Result.andThen] at h
@[go_sem] theorem neqTo_it (x y : Operand) (w : World) (a b : ItemV) : eqTo Try.prog .neq 55 x y w (.agg (itC a).toArray) (.agg (itC b).toArray) = .ok (.value (.bool (!itB a b))) w := by
  show ((do pure (.value (← (do eqGuard .neq 55 x y (.agg (itC a).toArray) (.agg (itC b).toArray); binOp .neq 55 (.agg (itC a).toArray) (.agg (itC b).toArray)))) : Sem Next)).run Try.prog w = _
  rw [Sem.run_bind, Sem.run_bind, run_eqGuard_agg _ _ _ _ _ _ _ (by kernel_rfl), Result.andThen_ok, run_neq_it]
  rfl

end Go.Proofs.Ytghjpbmemogioaa
