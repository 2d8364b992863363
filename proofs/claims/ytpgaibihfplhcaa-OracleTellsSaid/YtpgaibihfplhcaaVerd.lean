/- Verdicts: their cells, and the rules of their type, in this seat's numbers. -/
import Derived.Test.YtpgaibihfplhcaaKeys2
import Derived.Laws.StructEq
namespace Go.Proofs.Ytpgaibihfplhcaa
open Go.RowKit
set_option linter.unusedVariables false
set_option linter.unusedSimpArgs false

/-- A verdict on an item of a transaction. -/
structure Verd where
  tx : Key
  item : Int
  good : Bool
@[irreducible] def verC (v : Verd) : List Value := keyC v.tx ++ [.int .i64 v.item, .bool v.good]
@[go_sem] theorem verC_length (v : Verd) : (verC v).length = 34 := by unfold verC; rw [List.length_append, keyC_length]; rfl
@[go_sem] theorem verC_row (v : Verd) : isRow 34 (verC v) = true := by
  have h := keyC_row v.tx
  simp only [isRow, Bool.and_eq_true, decide_eq_true_eq] at h ⊢
  unfold verC
  rw [List.length_append, List.all_append, h.1, h.2]
  exact ⟨rfl, rfl⟩
def zeroVer : Verd := ⟨zeroKey, 0, false⟩
theorem load_ver (ρ : Operand → Value) (dst : Option Tmp) (x : Operand) (t : TypeId) (pos : String) (after : Array Edge) (guard : Option (Nat × Bool)) (w : World) :
    (execOp ρ ⟨dst, .load 40 x, t, pos, after, guard⟩).run Try.prog w = loadTo Try.prog 40 34 w (ρ x) :=
  exec_load Try.underlying40 rfl (by kernel_rfl) ρ dst x t pos after guard w
theorem store_ver (ρ : Operand → Value) (dst : Option Tmp) (a x : Operand) (t : TypeId) (pos : String) (after : Array Edge) (guard : Option (Nat × Bool)) (w : World) :
    (execOp ρ ⟨dst, .store 40 a x, t, pos, after, guard⟩).run Try.prog w = storeTo Try.prog 40 34 w (ρ a) (ρ x) :=
  exec_store (by kernel_rfl) ρ dst a x t pos after guard w
theorem alloc_ver (ρ : Operand → Value) (dst : Option Tmp) (t : TypeId) (pos : String) (after : Array Edge) (guard : Option (Nat × Bool)) (w : World) :
    (execOp ρ ⟨dst, .alloc 40, t, pos, after, guard⟩).run Try.prog w = .ok (.value (.pointer (some ⟨w.heap.size, 0, none⟩))) (w.alloc (.cells (verC zeroVer).toArray 40)) :=
  exec_alloc (by kernel_rfl) ρ dst t pos after guard w
theorem build0_ver (ρ : Operand → Value) (dst : Option Tmp) (t : TypeId) (pos : String) (after : Array Edge) (guard : Option (Nat × Bool)) (w : World) :
    (execOp ρ ⟨dst, .build 40 #[], t, pos, after, guard⟩).run Try.prog w = .ok (.value (.agg (verC zeroVer).toArray)) w :=
  exec_build0 (fun w => by kernel_rfl) ρ dst t pos after guard w
theorem info_ver : ∃ i, Try.prog.info? 40 = some i ∧ i.size = 34 ∧ i.zero = some (.agg (verC zeroVer).toArray) := by
  have h : (Try.prog.info? 40).map (fun i => (i.size, i.zero)) = some (34, some (.agg (verC zeroVer).toArray)) := by kernel_rfl
  obtain ⟨i, hi, h'⟩ := Option.map_eq_some_iff.1 h
  exact ⟨i, hi, congrArg Prod.fst h', congrArg Prod.snd h'⟩
theorem one_ver (ρ : Operand → Value) (dst : Option Tmp) (x : Operand) (t : TypeId) (pos : String) (after : Array Edge) (guard : Option (Nat × Bool)) (w : World) :
    (execOp ρ ⟨dst, .buildSlice 36 1 #[(0, x)], t, pos, after, guard⟩).run Try.prog w = oneTo Try.prog 36 40 34 w (ρ x) := by
  obtain ⟨i, hi, hs, hz⟩ := info_ver
  exact exec_one Try.underlying36 hi hs (by omega) (by omega) hz (by simp [go_sem]) ρ dst x t pos after guard w

theorem info_vers : ∃ i, Try.prog.info? 40 = some i ∧ i.size = 34 ∧ i.bytes = 48 ∧ i.zero = some (.agg (verC zeroVer).toArray) := by
  have h : (Try.prog.info? 40).map (fun i => (i.size, i.bytes, i.zero)) = some (34, 48, some (.agg (verC zeroVer).toArray)) := by kernel_rfl
  obtain ⟨i, hi, h'⟩ := Option.map_eq_some_iff.1 h
  simp only [Prod.mk.injEq] at h'
  exact ⟨i, hi, h'.1, h'.2.1, h'.2.2⟩
theorem make_ver (ρ : Operand → Value) (dst : Option Tmp) (x y : Operand) (t' : TypeId) (pos : String) (after : Array Edge) (guard : Option (Nat × Bool)) (w : World) :
    (execOp ρ ⟨dst, .makeSlice 36 x y, t', pos, after, guard⟩).run Try.prog w = makeTo Try.prog 36 40 (fun k => rows verC (List.replicate k zeroVer)) w (ρ x) (ρ y) := by
  obtain ⟨i, hi, hs, hb, hz⟩ := info_vers
  exact exec_make Try.underlying36 hi hs hb hz (verC_length _) (by omega) (by omega) ρ dst x y t' pos after guard w
theorem sizeOf_ver (w : World) : (sizeOf 40).run Try.prog w = .ok 34 w := by kernel_rfl
theorem append_ver (ρ : Operand → Value) (dst : Option Tmp) (x y : Operand) (ty : TypeId) (pos : String) (after : Array Edge) (guard : Option (Nat × Bool)) (w : World) :
    (execOp ρ ⟨dst, .call { callee := .builtin .append, args := #[x, y], argTypes := #[36, 36] }, ty, pos, after, guard⟩).run Try.prog w = appTo Try.prog 36 ty w (ρ x) (ρ y) :=
  exec_append _ ty ρ dst x y pos after guard w
abbrev VOwn (w : World) (base : Nat) (v : Value) (l : List Verd) : Prop := Own verC 34 40 w base v l
abbrev VL (w : World) (a : Option Addr) (n c : Nat) (l : List Verd) : Prop := SL verC 34 w a n c l
/-- 'append' of any verdicts to a slice of the call's own. -/
theorem app_v {w : World} {base : Nat} {u : Option Addr} {n0 c0 : Nat} {l : List Verd} {ty : TypeId} (hown : VOwn w base (.slice u n0 c0) l) (hbase : base ≤ w.heap.size) (a : Option Addr) (n cap : Nat) (m : List Verd) (hm : VL w a n cap m) (hlen : l.length + m.length ≤ 2000000) :
    ∃ u' n' c' w', appTo Try.prog 36 ty w (.slice u n0 c0) (.slice a n cap) = .ok (.value (.slice u' n' c')) w' ∧ VOwn w' base (.slice u' n' c') (l ++ m) ∧ Below base w w' ∧ w.heap.size ≤ w'.heap.size ∧ n' = l.length + m.length := by
  obtain rfl := hm.1
  by_cases hne : m = []
  · subst hne
    have hs := hown.sl'
    refine ⟨u, n0, c0, w, appTo_none Try.underlying36 sizeOf_ver u n0 c0 hs.2.2.1 hs.2.2.2.2.1 a cap, by rw [List.append_nil]; exact hown, Below.refl _ _, Nat.le_refl _, hs.1⟩
  · obtain ⟨i, hi, hs, hb, hz⟩ := info_vers
    obtain ⟨g, cap', w1, hap, hown', hgr, _⟩ := appTo_own (ty := ty) Try.underlying36 hi hs hb hz verC_length (by omega) verC_row (by omega) hown hbase a cap m hm hne hlen
    have hbl := grown_below hgr hown.ownBlock_le hbase
    exact ⟨_, _, _, w1, hap, hown', hbl, hgr.size, rfl⟩

/-! ### A verdict written out -/
def build3To (P : Program) (t : TypeId) (w : World) (u v z : Value) : Result Next := (do pure (.value (← Instr.build t #[(0, u), (1, v), (2, z)])) : Sem Next).run P w
theorem build3_ver (ρ : Operand → Value) (dst : Option Tmp) (x y z : Operand) (t : TypeId) (pos : String) (after : Array Edge) (guard : Option (Nat × Bool)) (w : World) :
    (execOp ρ ⟨dst, .build 40 #[(0, x), (1, y), (2, z)], t, pos, after, guard⟩).run Try.prog w = build3To Try.prog 40 w (ρ x) (ρ y) (ρ z) := by simp [execOp, build3To]
theorem list32 {α : Type} (l : List α) (h : l.length = 32) : ∃ b0 b1 b2 b3 b4 b5 b6 b7 b8 b9 b10 b11 b12 b13 b14 b15 b16 b17 b18 b19 b20 b21 b22 b23 b24 b25 b26 b27 b28 b29 b30 b31, l = [b0, b1, b2, b3, b4, b5, b6, b7, b8, b9, b10, b11, b12, b13, b14, b15, b16, b17, b18, b19, b20, b21, b22, b23, b24, b25, b26, b27, b28, b29, b30, b31] := by
  match l, h with
  | [b0, b1, b2, b3, b4, b5, b6, b7, b8, b9, b10, b11, b12, b13, b14, b15, b16, b17, b18, b19, b20, b21, b22, b23, b24, b25, b26, b27, b28, b29, b30, b31], _ => exact ⟨b0, b1, b2, b3, b4, b5, b6, b7, b8, b9, b10, b11, b12, b13, b14, b15, b16, b17, b18, b19, b20, b21, b22, b23, b24, b25, b26, b27, b28, b29, b30, b31, rfl⟩
theorem run_build3 (k : Key) (i : Int) (b : Bool) (w : World) : (Instr.build 40 #[(0, Value.agg (keyC k).toArray), (1, Value.int .i64 i), (2, Value.bool b)]).run Try.prog w = .ok (.agg (verC ⟨k, i, b⟩).toArray) w := by
  obtain ⟨b0, b1, b2, b3, b4, b5, b6, b7, b8, b9, b10, b11, b12, b13, b14, b15, b16, b17, b18, b19, b20, b21, b22, b23, b24, b25, b26, b27, b28, b29, b30, b31, h⟩ := list32 (keyC k) (keyC_length k)
  unfold verC
  show (Instr.build 40 #[(0, Value.agg (keyC k).toArray), (1, Value.int .i64 i), (2, Value.bool b)]).run Try.prog w = .ok (Value.agg (keyC k ++ [Value.int .i64 i, Value.bool b]).toArray) w
  rw [h]
  kernel_rfl
@[go_sem] theorem build3To_ver (k : Key) (i : Int) (b : Bool) (w : World) : build3To Try.prog 40 w (.agg (keyC k).toArray) (.int .i64 i) (.bool b) = .ok (.value (.agg (verC ⟨k, i, b⟩).toArray)) w := by
  unfold build3To
  rw [Sem.run_bind, run_build3]
  rfl

/-! ### Two verdicts compared -/
def verB (a b : Verd) : Bool := (a.tx == b.tx) && (a.item == b.item) && (a.good == b.good)
theorem eq_ver (ρ : Operand → Value) (op : BinOp) (dst : Option Tmp) (x y : Operand) (ty2 t : TypeId) (pos : String) (after : Array Edge) (guard : Option (Nat × Bool)) (w : World) :
    (execOp ρ ⟨dst, .binOp op 40 x y ty2, t, pos, after, guard⟩).run Try.prog w = eqTo Try.prog op 40 x y w (ρ x) (ρ y) := exec_eq op _ ρ dst x y ty2 t pos after guard w
theorem run_part0 (a : Verd) (w : World) : (part 23 (verC a).toArray 0).run Try.prog w = .ok (.agg (keyC a.tx).toArray) w := by
  unfold verC
  obtain ⟨b0, b1, b2, b3, b4, b5, b6, b7, b8, b9, b10, b11, b12, b13, b14, b15, b16, b17, b18, b19, b20, b21, b22, b23, b24, b25, b26, b27, b28, b29, b30, b31, h⟩ := list32 (keyC a.tx) (keyC_length a.tx)
  rw [h]
  kernel_rfl
theorem run_part1 (a : Verd) (w : World) : (part 3 (verC a).toArray 32).run Try.prog w = .ok (.int .i64 a.item) w := by
  unfold verC
  obtain ⟨b0, b1, b2, b3, b4, b5, b6, b7, b8, b9, b10, b11, b12, b13, b14, b15, b16, b17, b18, b19, b20, b21, b22, b23, b24, b25, b26, b27, b28, b29, b30, b31, h⟩ := list32 (keyC a.tx) (keyC_length a.tx)
  rw [h]
  kernel_rfl
theorem run_part2 (a : Verd) (w : World) : (part 4 (verC a).toArray 33).run Try.prog w = .ok (.bool a.good) w := by
  unfold verC
  obtain ⟨b0, b1, b2, b3, b4, b5, b6, b7, b8, b9, b10, b11, b12, b13, b14, b15, b16, b17, b18, b19, b20, b21, b22, b23, b24, b25, b26, b27, b28, b29, b30, b31, h⟩ := list32 (keyC a.tx) (keyC_length a.tx)
  rw [h]
  kernel_rfl
theorem fields_ver : (Try.prog.fieldsOf 40).toList.map (fun f => (f.name, f.type, f.offset)) = [("Tx", 23, 0), ("Item", 3, 32), ("Good", 4, 33)] := by kernel_rfl
theorem run_eql_ver (a b : Verd) (w : World) : (binOp .eql 40 (.agg (verC a).toArray) (.agg (verC b).toArray)).run Try.prog w = .ok (.bool (verB a b)) w := by
  rw [run_eql_struct, run_equalIn_struct w 9999 _ _ _ (by kernel_rfl) (by kernel_rfl)]
  obtain ⟨f0, f1, f2, hf, h0, h1, h2⟩ : ∃ f0 f1 f2 : Field, (Try.prog.fieldsOf 40).toList = [f0, f1, f2] ∧ (f0.name = "Tx" ∧ f0.type = 23 ∧ f0.offset = 0) ∧ (f1.name = "Item" ∧ f1.type = 3 ∧ f1.offset = 32) ∧ (f2.name = "Good" ∧ f2.type = 4 ∧ f2.offset = 33) := by
    have h := fields_ver
    revert h
    generalize (Try.prog.fieldsOf 40).toList = l
    intro h
    rcases l with _ | ⟨f0, _ | ⟨f1, _ | ⟨f2, _ | ⟨f3, l⟩⟩⟩⟩ <;> simp at h
    exact ⟨f0, f1, f2, rfl, h.1, h.2.1, h.2.2⟩
  rw [hf]
  simp only [Op.eqFields, h0.1, h0.2.1, h0.2.2, h1.1, h1.2.1, h1.2.2, h2.1, h2.2.1, h2.2.2]
  have hk : (Op.equalIn 9999 23 (.agg (keyC a.tx).toArray) (.agg (keyC b.tx).toArray)).run Try.prog w = .ok (a.tx == b.tx) w := by
    have h := run_equalIn_bytes (P := Try.prog) w 9997 23 5 32 Try.underlying23 Try.underlying5 sizeOf_u8 a.tx.1 b.tx.1 a.tx.2 b.tx.2
    have hb : (a.tx.1 == b.tx.1) = (a.tx == b.tx) := by
      rw [Bool.eq_iff_iff, beq_iff_eq, beq_iff_eq]
      exact ⟨Key.ext, fun h => by rw [h]⟩
    unfold keyC
    rw [← hb]
    exact h
  have hi : (Op.equalIn 9999 3 (.int .i64 a.item) (.int .i64 b.item)).run Try.prog w = .ok (a.item == b.item) w := run_equalIn_int w 9998 _ _ _ _ _ Try.underlying3
  have hg : (Op.equalIn 9999 4 (.bool a.good) (.bool b.good)).run Try.prog w = .ok (a.good == b.good) w := run_equalIn_bool' w 9998 _ _ _ Try.underlying4
  simp only [show ("Tx" ≠ "_") = True from by decide, show ("Item" ≠ "_") = True from by decide, show ("Good" ≠ "_") = True from by decide, if_true, Sem.run_bind, run_part0, run_part1, run_part2, hk, hi, hg, Result.andThen_ok, Sem.run_ite, Sem.run_pure]
  unfold verB
  cases a.tx == b.tx <;> cases a.item == b.item <;> cases a.good == b.good <;> simp
@[go_sem] theorem eqTo_ver (x y : Operand) (w : World) (a b : Verd) : eqTo Try.prog .eql 40 x y w (.agg (verC a).toArray) (.agg (verC b).toArray) = .ok (.value (.bool (verB a b))) w := by
  show ((do pure (.value (← (do eqGuard .eql 40 x y (.agg (verC a).toArray) (.agg (verC b).toArray); binOp .eql 40 (.agg (verC a).toArray) (.agg (verC b).toArray)))) : Sem Next)).run Try.prog w = _
  rw [Sem.run_bind, Sem.run_bind, run_eqGuard_agg _ _ _ _ _ _ _ (by kernel_rfl), Result.andThen_ok, run_eql_ver]
  rfl
theorem run_neq_ver (a b : Verd) (w : World) : (binOp .neq 40 (.agg (verC a).toArray) (.agg (verC b).toArray)).run Try.prog w = .ok (.bool (!verB a b)) w := by
  have h := run_eql_ver a b w
  rw [run_eql_struct] at h
  rw [run_neq_struct]
  revert h
  generalize (Op.equalIn 10000 40 (.agg (verC a).toArray) (.agg (verC b).toArray)).run Try.prog w = r
  intro h
  cases r with
  | ok c w' =>
    simp only [Result.andThen_ok] at h ⊢
    injection h with h1 h2
    injection h1 with h1
    rw [h1, h2]
  | halt c w' => simp [Result.andThen] at h
@[go_sem] theorem neqTo_ver (x y : Operand) (w : World) (a b : Verd) : eqTo Try.prog .neq 40 x y w (.agg (verC a).toArray) (.agg (verC b).toArray) = .ok (.value (.bool (!verB a b))) w := by
  show ((do pure (.value (← (do eqGuard .neq 40 x y (.agg (verC a).toArray) (.agg (verC b).toArray); binOp .neq 40 (.agg (verC a).toArray) (.agg (verC b).toArray)))) : Sem Next)).run Try.prog w = _
  rw [Sem.run_bind, Sem.run_bind, run_eqGuard_agg _ _ _ _ _ _ _ (by kernel_rfl), Result.andThen_ok, run_neq_ver]
  rfl

end Go.Proofs.Ytpgaibihfplhcaa
