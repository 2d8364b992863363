/- A tree is the same as itself. -/
import Derived.Test.YtabikhmaiennpaaTree4
import Derived.ChangeKeysEq
namespace Go.Proofs.Ytabikhmaiennpaa
open Go.RowKit
set_option linter.unusedVariables false
set_option linter.unusedSimpArgs false
set_option maxRecDepth 100000

theorem part_agg {t : TypeId} {n : Nat} (h : ∀ w, (isAgg t).run Try.prog w = .ok true w) (hs : ∀ w, (sizeOf t).run Try.prog w = .ok n w) (cs : Array Value) (off : Nat) (w : World) :
    (part t cs off).run Try.prog w = .ok (.agg (cs.extract off (off + n))) w := by
  simp only [part, Sem.run_bind, h, hs, Result.andThen_ok, Sem.run_ite, if_true, Sem.run_pure]
theorem isAgg_key (w : World) : (isAgg 23).run Try.prog w = .ok true w := by kernel_rfl
theorem sizeOf_key' (w : World) : (sizeOf 23).run Try.prog w = .ok 32 w := by kernel_rfl
theorem isAgg_k32 (w : World) : (isAgg 26).run Try.prog w = .ok true w := by kernel_rfl
theorem sizeOf_k32 (w : World) : (sizeOf 26).run Try.prog w = .ok 1024 w := by kernel_rfl
theorem cellsOf_key : Try.prog.cellsOf 23 = 32 := by kernel_rfl
theorem info_key' : ∃ i, Try.prog.info? 23 = some i := info_of_underlying Try.underlying23
theorem eqItems_step (d : Nat) (cs : Array Value) (i : Nat) (is : List Nat) (v : Value) (w : World) (hp : (part 23 cs (i * 32)).run Try.prog w = .ok v w) (hq : (Op.equalIn d 23 v v).run Try.prog w = .ok true w)
    (ih : (Op.eqItems d 23 32 cs cs is).run Try.prog w = .ok true w) : (Op.eqItems d 23 32 cs cs (i :: is)).run Try.prog w = .ok true w := by
  rw [Op.eqItems, Sem.run_bind, hp, Result.andThen_ok, Sem.run_bind, hp, Result.andThen_ok, Sem.run_bind, hq, Result.andThen_ok]
  exact ih
theorem part_item (l : List Key) (hl : l.length = 32) (w : World) (i : Nat) (hi : i < 32) : (part 23 (rows keyC l).toArray (i * 32)).run Try.prog w = .ok (.agg (keyC (l.getD i zeroKey)).toArray) w := by
  rw [part_agg isAgg_key sizeOf_key']
  have he : ((rows keyC l).drop (i * 32)).take 32 = keyC (l.getD i zeroKey) := rows_elem keyC_length (by rw [List.getD_eq_getElem?_getD, List.getElem?_eq_getElem (by omega)]; rfl)
  congr 2
  rw [← he]
  apply Array.ext'
  simp
theorem equalIn_key (d : Nat) (k : Key) (w : World) : (Op.equalIn (d + 2) 23 (.agg (keyC k).toArray) (.agg (keyC k).toArray)).run Try.prog w = .ok true w := by
  unfold keyC
  rw [run_equalIn_bytes (P := Try.prog) w d 23 5 32 Try.underlying23 Try.underlying5 sizeOf_u8 _ _ k.2 k.2]
  simp
theorem eqItems_same (d : Nat) (l : List Key) (hl : l.length = 32) (w : World) (is : List Nat) (h : ∀ i ∈ is, i < 32) : (Op.eqItems (d + 2) 23 32 (rows keyC l).toArray (rows keyC l).toArray is).run Try.prog w = .ok true w := by
  induction is with
  | nil => rfl
  | cons i is ih => exact eqItems_step (d + 2) _ i is _ w (part_item l hl w i (h i (by simp))) (equalIn_key d _ w) (ih fun j hj => h j (by simp [hj]))
theorem equalIn_u32 (d : Nat) (c : Int) (w : World) : (Op.equalIn (d + 1) 25 (.int .u32 c) (.int .u32 c)).run Try.prog w = .ok true w := by
  rw [run_equalIn_int w d _ _ _ _ _ Try.underlying25]; simp
theorem equalIn_k32 (d : Nat) (l : List Key) (hl : l.length = 32) (w : World) : (Op.equalIn (d + 2 + 1) 26 (.agg (rows keyC l).toArray) (.agg (rows keyC l).toArray)).run Try.prog w = .ok true w := by
  obtain ⟨i, hi⟩ := info_key'
  rw [run_equalIn_array w (d + 2) _ _ Try.underlying26 hi, cellsOf_key]
  exact eqItems_same d l hl w _ (fun i hi => List.mem_range.1 hi)
theorem eqFields_step (d : Nat) (cs : Array Value) (f : Field) (fs : List Field) (v : Value) (w : World) (hn : f.name ≠ "_") (hp : (part f.type cs f.offset).run Try.prog w = .ok v w) (hq : (Op.equalIn d f.type v v).run Try.prog w = .ok true w)
    (ih : (Op.eqFields d cs cs fs).run Try.prog w = .ok true w) : (Op.eqFields d cs cs (f :: fs)).run Try.prog w = .ok true w := by
  rw [Op.eqFields, if_pos hn, Sem.run_bind, hp, Result.andThen_ok, Sem.run_bind, hp, Result.andThen_ok, Sem.run_bind, hq, Result.andThen_ok]
  exact ih
theorem fields_tree : (Try.prog.fieldsOf 28).toList.map (fun f => (f.name, f.type, f.offset)) = [("Count", 25, 0), ("Parts", 26, 1)] := by kernel_rfl
theorem isAgg_u32 (w : World) : (isAgg 25).run Try.prog w = .ok false w := by kernel_rfl
theorem run_eql_tree (t : TreeV) (w : World) : (binOp .eql 28 (.agg (treeC t).toArray) (.agg (treeC t).toArray)).run Try.prog w = .ok (.bool true) w := by
  rw [run_eql_struct, run_equalIn_struct w 9999 _ _ _ (by kernel_rfl) (by kernel_rfl)]
  obtain ⟨f0, f1, hf, h0, h1⟩ : ∃ f0 f1 : Field, (Try.prog.fieldsOf 28).toList = [f0, f1] ∧ (f0.name = "Count" ∧ f0.type = 25 ∧ f0.offset = 0) ∧ (f1.name = "Parts" ∧ f1.type = 26 ∧ f1.offset = 1) := by
    have h := fields_tree
    revert h
    generalize (Try.prog.fieldsOf 28).toList = l
    intro h
    rcases l with _ | ⟨f0, _ | ⟨f1, _ | ⟨f2, l⟩⟩⟩ <;> simp at h
    exact ⟨f0, f1, rfl, h.1, h.2⟩
  rw [hf]
  suffices hs : (Op.eqFields 9999 (treeC t).toArray (treeC t).toArray [f0, f1]).run Try.prog w = .ok true w by rw [hs]; rfl
  have p0 : (part 25 (treeC t).toArray 0).run Try.prog w = .ok (.int .u32 t.count) w := by
    unfold treeC
    simp only [part, Sem.run_bind, isAgg_u32, Result.andThen_ok, Sem.run_ite, Bool.false_eq_true, if_false]
    rfl
  have p1 : (part 26 (treeC t).toArray 1).run Try.prog w = .ok (.agg (rows keyC t.l).toArray) w := by
    rw [part_agg isAgg_k32 sizeOf_k32]
    unfold treeC
    congr 2
    apply Array.ext'
    simp
    have := rows_length keyC_length t.l
    rw [t.h] at this
    exact List.take_of_length_le (by omega)
  have e0 : (Op.equalIn 9999 25 (.int .u32 t.count) (.int .u32 t.count)).run Try.prog w = .ok true w := equalIn_u32 9998 t.count w
  have e1 : (Op.equalIn 9999 26 (.agg (rows keyC t.l).toArray) (.agg (rows keyC t.l).toArray)).run Try.prog w = .ok true w := equalIn_k32 9996 t.l t.h w
  exact eqFields_step 9999 _ f0 _ _ w (by rw [h0.1]; decide) (by rw [h0.2.1, h0.2.2]; exact p0) (by rw [h0.2.1]; exact e0) (eqFields_step 9999 _ f1 _ _ w (by rw [h1.1]; decide) (by rw [h1.2.1, h1.2.2]; exact p1) (by rw [h1.2.1]; exact e1) rfl)
theorem eq_tree (ρ : Operand → Value) (op : BinOp) (dst : Option Tmp) (x y : Operand) (ty2 t : TypeId) (pos : String) (after : Array Edge) (guard : Option (Nat × Bool)) (w : World) :
    (execOp ρ ⟨dst, .binOp op 28 x y ty2, t, pos, after, guard⟩).run Try.prog w = eqTo Try.prog op 28 x y w (ρ x) (ρ y) := exec_eq op _ ρ dst x y ty2 t pos after guard w
@[go_sem] theorem eqTo_tree (x y : Operand) (w : World) (t : TreeV) : eqTo Try.prog .eql 28 x y w (.agg (treeC t).toArray) (.agg (treeC t).toArray) = .ok (.value (.bool true)) w := by
  show ((do pure (.value (← (do eqGuard .eql 28 x y (.agg (treeC t).toArray) (.agg (treeC t).toArray); binOp .eql 28 (.agg (treeC t).toArray) (.agg (treeC t).toArray)))) : Sem Next)).run Try.prog w = _
  rw [Sem.run_bind, Sem.run_bind, run_eqGuard_agg _ _ _ _ _ _ _ (by kernel_rfl), Result.andThen_ok, run_eql_tree]
  rfl

attribute [local irreducible] Int.lt Int.le
attribute [local go_sem ↓] load_key store_key alloc_key build0_key eq_key load_a33 store_a33 alloc_a33 load_tree store_tree alloc_tree build0_tree build1_key
attribute [local go_sem] rowOf_drew canPut_drew canPut_alloc_old canPut_alloc_new setCells_alloc_new treeC_g0
set_option maxHeartbeats 4000000 in
/-- All: there is no room. -/
theorem all_full (t : TreeV) (a : Option Addr) (cap : Nat) (l : List Key) (W : World) (h : KL W a cap l) (hl : l.length ≤ 2000) (hct : t.count ≤ 4294967295) (hc : 4294967295 < t.count + l.length) :
    Calls Try.prog 9 #[.agg (treeC t).toArray, .slice a l.length cap] W (Gives (valT (zeroTree, 2)) W) := by
  obtain ⟨q1, q2, hz, hB⟩ := two W (treeC t).toArray (treeC zeroTree).toArray 28 28
  have hT0 : TB _ W.heap.size t := q1
  have hR0 : TB _ (W.heap.size + 1) zeroTree := q2
  clear q1 q2
  have hsub : ((4294967295 : Int) - (t.count : Int)) % 4294967296 = 4294967295 - t.count := by omega
  have hlm : (l.length : Int) % 18446744073709551616 = l.length := by omega
  have hge : ((4294967295 : Int) - t.count < l.length) := by omega
  have hge2 : (((4294967295 : Int) - t.count) % 18446744073709551616 < l.length) := by omega
  have hcap := h.2.1
  have rf := hR0.row
  have bf := Box.mk hB
  replace h := Box.mk h
  replace hc := Box.mk hc
  replace hct := Box.mk hct
  replace hT0 := Box.mk hT0
  replace hR0 := Box.mk hR0
  replace hB := Box.mk hB
  replace hz := Box.mk hz
  replace rf := Box.mk rf
  go_enter Try.func9, Try.ntmps9
  go_wp2_with fail
  refine bodyPost_ret (v := valT (zeroTree, 2)) (res2 Try.results9 (res_tree (b := W.heap.size + 1) (o := 0) (by simp [go_sem]) rf.out) (v2 := .int .i64 2) (by simp [oneRes]; try rfl)) rfl ?_
  exact gives rfl bf.out
end Go.Proofs.Ytabikhmaiennpaa
