/- Layer 5: are two transactions the same? (printed by mksame.py) -/
import Derived.Test.YtfnlgihkofkibaaRef5
import Derived.Test.YtfnlgihkofkibaaBase
import Derived.WalkLawsBesides
namespace Go.Proofs.Ytfnlgihkofkibaa
open Go.RowKit
set_option linter.unusedVariables false
set_option linter.unusedSimpArgs false
set_option maxRecDepth 100000

def eqB_pt (a b : PointV) : Bool := (a.tx == b.tx) && (a.idx == b.idx)
def eqB_out (a b : OutV) : Bool := (a.value == b.value) && (a.lock == b.lock)
def eqB_key (a b : Key) : Bool := a == b
theorem eqB_pt_iff (a b : PointV) : eqB_pt a b = true ↔ a = b := by
  unfold eqB_pt
  rw [Bool.and_eq_true, beq_iff_eq, beq_iff_eq]
  constructor
  · rintro ⟨h1, h2⟩; cases a; cases b; simp only at h1 h2; subst h1 h2; rfl
  · rintro rfl; exact ⟨rfl, rfl⟩
theorem eqB_out_iff (a b : OutV) : eqB_out a b = true ↔ a = b := by
  unfold eqB_out
  rw [Bool.and_eq_true, beq_iff_eq, beq_iff_eq]
  constructor
  · rintro ⟨h1, h2⟩; cases a; cases b; simp only at h1 h2; subst h1 h2; rfl
  · rintro rfl; exact ⟨rfl, rfl⟩
theorem eqB_key_iff (a b : Key) : eqB_key a b = true ↔ a = b := beq_iff_eq
def eqL {α : Type} (f : α → α → Bool) : List α → List α → Bool
  | [], [] => true
  | x :: l, y :: m => f x y && eqL f l m
  | _, _ => false
theorem eqL_iff {α : Type} {f : α → α → Bool} (hf : ∀ a b, f a b = true ↔ a = b) : ∀ (l m : List α), eqL f l m = true ↔ l = m
  | [], [] => by simp [eqL]
  | [], _ :: _ => by simp [eqL]
  | _ :: _, [] => by simp [eqL]
  | x :: l, y :: m => by simp [eqL, hf, eqL_iff hf l m]
theorem eqL_false {α : Type} {f : α → α → Bool} (hf : ∀ a b, f a b = true ↔ a = b) {l m : List α} (h : l ≠ m) : eqL f l m = false := by
  cases he : eqL f l m with
  | false => rfl
  | true => exact absurd ((eqL_iff hf l m).1 he) h
theorem ne_of_get {α : Type} {l m : List α} {j : Nat} {x y : α} (h1 : l[j]? = some x) (h2 : m[j]? = some y) (h : x ≠ y) : l ≠ m := by
  rintro rfl
  rw [h1] at h2
  injection h2 with h2
  exact h h2
theorem take_next {α : Type} {l m : List α} {j : Nat} {x y : α} (h1 : l[j]? = some x) (h2 : m[j]? = some y) (h : x = y) (ht : l.take j = m.take j) : l.take (j + 1) = m.take (j + 1) := by
  rw [List.take_add_one, List.take_add_one, h1, h2, h, ht]
/-- Are they the same transaction? -/
@[irreducible] def sameB (d e : TxD) : Bool := (d.exp == e.exp) && ((d.anchor == e.anchor) && ((d.bal == e.bal) && (eqL eqB_pt d.ins e.ins && (eqL eqB_out d.outs e.outs && (eqL eqB_key d.nulls e.nulls && eqL eqB_key d.notes e.notes)))))
theorem sameB_iff (d e : TxD) : sameB d e = true ↔ d = e := by
  unfold sameB
  simp only [Bool.and_eq_true, beq_iff_eq, eqL_iff eqB_pt_iff, eqL_iff eqB_out_iff, eqL_iff eqB_key_iff]
  constructor
  · rintro ⟨h1, h2, h3, h4, h5, h6, h7⟩; cases d; cases e; simp only at *; subst h1 h2 h3 h4 h5 h6 h7; rfl
  · rintro rfl; simp
theorem sameB_self (d : TxD) : sameB d d = true := (sameB_iff d d).2 rfl
theorem sameB_false {d e : TxD} (h : d ≠ e) : sameB d e = false := by
  cases he : sameB d e with
  | false => rfl
  | true => exact absurd ((sameB_iff d e).1 he) h

theorem sm32 (l : List Value) (h : l.length = 32) : ∃ b0 b1 b2 b3 b4 b5 b6 b7 b8 b9 b10 b11 b12 b13 b14 b15 b16 b17 b18 b19 b20 b21 b22 b23 b24 b25 b26 b27 b28 b29 b30 b31, l = [b0, b1, b2, b3, b4, b5, b6, b7, b8, b9, b10, b11, b12, b13, b14, b15, b16, b17, b18, b19, b20, b21, b22, b23, b24, b25, b26, b27, b28, b29, b30, b31] := by
  match l, h with
  | [b0, b1, b2, b3, b4, b5, b6, b7, b8, b9, b10, b11, b12, b13, b14, b15, b16, b17, b18, b19, b20, b21, b22, b23, b24, b25, b26, b27, b28, b29, b30, b31], _ => exact ⟨b0, b1, b2, b3, b4, b5, b6, b7, b8, b9, b10, b11, b12, b13, b14, b15, b16, b17, b18, b19, b20, b21, b22, b23, b24, b25, b26, b27, b28, b29, b30, b31, rfl⟩
theorem sm_key (a b : Key) (w : World) : (Op.equalIn 9999 26 (.agg (keyC a).toArray) (.agg (keyC b).toArray)).run Try.prog w = .ok (a == b) w := by
  have h := run_equalIn_bytes (P := Try.prog) w 9997 26 5 32 Try.underlying26 Try.underlying5 sizeOf_u8 a.1 b.1 a.2 b.2
  have hb : (a.1 == b.1) = (a == b) := by
    rw [Bool.eq_iff_iff, beq_iff_eq, beq_iff_eq]
    exact ⟨Key.ext, fun h => by rw [h]⟩
  unfold keyC
  rw [← hb]
  exact h

theorem smfields_pt : (Try.prog.fieldsOf 36).toList.map (fun f => (f.name, f.type, f.offset)) = [("Tx", 26, 0), ("Index", 22, 32)] := by kernel_rfl
theorem smpart_pt0 (a : PointV) (w : World) : (part 26 (pointC a).toArray 0).run Try.prog w = .ok (Value.agg (keyC a.tx).toArray) w := by
  unfold pointC
  obtain ⟨b0, b1, b2, b3, b4, b5, b6, b7, b8, b9, b10, b11, b12, b13, b14, b15, b16, b17, b18, b19, b20, b21, b22, b23, b24, b25, b26, b27, b28, b29, b30, b31, h⟩ := sm32 (keyC a.tx) (keyC_length a.tx)
  rw [h]
  kernel_rfl
theorem smpart_pt1 (a : PointV) (w : World) : (part 22 (pointC a).toArray 32).run Try.prog w = .ok (Value.int .u32 a.idx) w := by
  unfold pointC
  obtain ⟨b0, b1, b2, b3, b4, b5, b6, b7, b8, b9, b10, b11, b12, b13, b14, b15, b16, b17, b18, b19, b20, b21, b22, b23, b24, b25, b26, b27, b28, b29, b30, b31, h⟩ := sm32 (keyC a.tx) (keyC_length a.tx)
  rw [h]
  kernel_rfl
theorem smrun_pt (a b : PointV) (w : World) : (Op.equalIn 10000 36 (.agg (pointC a).toArray) (.agg (pointC b).toArray)).run Try.prog w = .ok (eqB_pt a b) w := by
  rw [run_equalIn_struct w 9999 _ _ _ (by kernel_rfl) (by kernel_rfl)]
  obtain ⟨f0, f1, hf, h0, h1⟩ : ∃ f0 f1 : Field, (Try.prog.fieldsOf 36).toList = [f0, f1] ∧ (f0.name = "Tx" ∧ f0.type = 26 ∧ f0.offset = 0) ∧ (f1.name = "Index" ∧ f1.type = 22 ∧ f1.offset = 32) := by
    have h := smfields_pt
    revert h
    generalize (Try.prog.fieldsOf 36).toList = l
    intro h
    rcases l with _ | ⟨f0, _ | ⟨f1, _ | ⟨f2, l⟩⟩⟩ <;> simp at h
    exact ⟨f0, f1, rfl, h.1, h.2⟩
  rw [hf]
  simp only [Op.eqFields, h0.1, h0.2.1, h0.2.2, h1.1, h1.2.1, h1.2.2]
  have e0 : (Op.equalIn 9999 26 (.agg (keyC a.tx).toArray) (.agg (keyC b.tx).toArray)).run Try.prog w = .ok (a.tx == b.tx) w := sm_key _ _ w
  have e1 : (Op.equalIn 9999 22 (.int .u32 a.idx) (.int .u32 b.idx)).run Try.prog w = .ok (a.idx == b.idx) w := run_equalIn_int w 9998 _ _ _ _ _ Try.underlying22
  simp only [show ("Tx" ≠ "_") = True from by decide, show ("Index" ≠ "_") = True from by decide, if_true, Sem.run_bind, smpart_pt0, smpart_pt1, e0, e1, Result.andThen_ok, Sem.run_ite, Sem.run_pure]
  unfold eqB_pt
  cases a.tx == b.tx <;> cases a.idx == b.idx <;> simp
theorem eq_pt (ρ : Operand → Value) (op : BinOp) (dst : Option Tmp) (x y : Operand) (ty2 t : TypeId) (pos : String) (after : Array Edge) (guard : Option (Nat × Bool)) (w : World) :
    (execOp ρ ⟨dst, .binOp op 36 x y ty2, t, pos, after, guard⟩).run Try.prog w = eqTo Try.prog op 36 x y w (ρ x) (ρ y) := exec_eq op _ ρ dst x y ty2 t pos after guard w
@[go_sem] theorem neqTo_pt (x y : Operand) (w : World) (a b : PointV) : eqTo Try.prog .neq 36 x y w (.agg (pointC a).toArray) (.agg (pointC b).toArray) = .ok (.value (.bool (!eqB_pt a b))) w := by
  show ((do pure (.value (← (do eqGuard .neq 36 x y (.agg (pointC a).toArray) (.agg (pointC b).toArray); binOp .neq 36 (.agg (pointC a).toArray) (.agg (pointC b).toArray)))) : Sem Next)).run Try.prog w = _
  rw [Sem.run_bind, Sem.run_bind, run_eqGuard_agg _ _ _ _ _ _ _ (by kernel_rfl), Result.andThen_ok, run_neq_struct, smrun_pt]
  rfl

theorem smfields_out : (Try.prog.fieldsOf 50).toList.map (fun f => (f.name, f.type, f.offset)) = [("Value", 2, 0), ("Lock", 26, 1)] := by kernel_rfl
theorem smpart_out0 (a : OutV) (w : World) : (part 2 (outC a).toArray 0).run Try.prog w = .ok (Value.int .i64 a.value) w := by
  unfold outC
  obtain ⟨b0, b1, b2, b3, b4, b5, b6, b7, b8, b9, b10, b11, b12, b13, b14, b15, b16, b17, b18, b19, b20, b21, b22, b23, b24, b25, b26, b27, b28, b29, b30, b31, h⟩ := sm32 (keyC a.lock) (keyC_length a.lock)
  rw [h]
  kernel_rfl
theorem smpart_out1 (a : OutV) (w : World) : (part 26 (outC a).toArray 1).run Try.prog w = .ok (Value.agg (keyC a.lock).toArray) w := by
  unfold outC
  obtain ⟨b0, b1, b2, b3, b4, b5, b6, b7, b8, b9, b10, b11, b12, b13, b14, b15, b16, b17, b18, b19, b20, b21, b22, b23, b24, b25, b26, b27, b28, b29, b30, b31, h⟩ := sm32 (keyC a.lock) (keyC_length a.lock)
  rw [h]
  kernel_rfl
theorem smrun_out (a b : OutV) (w : World) : (Op.equalIn 10000 50 (.agg (outC a).toArray) (.agg (outC b).toArray)).run Try.prog w = .ok (eqB_out a b) w := by
  rw [run_equalIn_struct w 9999 _ _ _ (by kernel_rfl) (by kernel_rfl)]
  obtain ⟨f0, f1, hf, h0, h1⟩ : ∃ f0 f1 : Field, (Try.prog.fieldsOf 50).toList = [f0, f1] ∧ (f0.name = "Value" ∧ f0.type = 2 ∧ f0.offset = 0) ∧ (f1.name = "Lock" ∧ f1.type = 26 ∧ f1.offset = 1) := by
    have h := smfields_out
    revert h
    generalize (Try.prog.fieldsOf 50).toList = l
    intro h
    rcases l with _ | ⟨f0, _ | ⟨f1, _ | ⟨f2, l⟩⟩⟩ <;> simp at h
    exact ⟨f0, f1, rfl, h.1, h.2⟩
  rw [hf]
  simp only [Op.eqFields, h0.1, h0.2.1, h0.2.2, h1.1, h1.2.1, h1.2.2]
  have e0 : (Op.equalIn 9999 2 (.int .i64 a.value) (.int .i64 b.value)).run Try.prog w = .ok (a.value == b.value) w := run_equalIn_int w 9998 _ _ _ _ _ Try.underlying2
  have e1 : (Op.equalIn 9999 26 (.agg (keyC a.lock).toArray) (.agg (keyC b.lock).toArray)).run Try.prog w = .ok (a.lock == b.lock) w := sm_key _ _ w
  simp only [show ("Value" ≠ "_") = True from by decide, show ("Lock" ≠ "_") = True from by decide, if_true, Sem.run_bind, smpart_out0, smpart_out1, e0, e1, Result.andThen_ok, Sem.run_ite, Sem.run_pure]
  unfold eqB_out
  cases a.value == b.value <;> cases a.lock == b.lock <;> simp
theorem eq_out (ρ : Operand → Value) (op : BinOp) (dst : Option Tmp) (x y : Operand) (ty2 t : TypeId) (pos : String) (after : Array Edge) (guard : Option (Nat × Bool)) (w : World) :
    (execOp ρ ⟨dst, .binOp op 50 x y ty2, t, pos, after, guard⟩).run Try.prog w = eqTo Try.prog op 50 x y w (ρ x) (ρ y) := exec_eq op _ ρ dst x y ty2 t pos after guard w
@[go_sem] theorem neqTo_out (x y : Operand) (w : World) (a b : OutV) : eqTo Try.prog .neq 50 x y w (.agg (outC a).toArray) (.agg (outC b).toArray) = .ok (.value (.bool (!eqB_out a b))) w := by
  show ((do pure (.value (← (do eqGuard .neq 50 x y (.agg (outC a).toArray) (.agg (outC b).toArray); binOp .neq 50 (.agg (outC a).toArray) (.agg (outC b).toArray)))) : Sem Next)).run Try.prog w = _
  rw [Sem.run_bind, Sem.run_bind, run_eqGuard_agg _ _ _ _ _ _ _ (by kernel_rfl), Result.andThen_ok, run_neq_struct, smrun_out]
  rfl

attribute [local irreducible] Int.lt Int.le
attribute [local go_sem ↓] load_key store_key alloc_key build0_key eq_key load_point store_point alloc_point load_out store_out alloc_out load_tx store_tx alloc_tx eq_pt eq_out
attribute [local go_sem] rowOf_drew rowOf_alloc_old rowOf_alloc_new canPut_drew canPut_alloc_old canPut_alloc_new setCells_alloc_new

set_option maxHeartbeats 1000000 in
theorem slicesEq_pt (a a' : Option Addr) (n n' c c' : Nat) (l m : List PointV) (W : World) (h : SL pointC 33 W a n c l) (h' : SL pointC 33 W a' n' c' m) (hn : n ≤ 100000) :
    Calls Try.prog 50 #[.slice a n c, .slice a' n' c'] W (Gives (.bool (eqL eqB_pt l m)) W) := by
  have hl := Box.mk h.1
  have hl' := Box.mk h'.1
  have hcap := h.2.1
  have hcap' := h'.2.1
  have H := Box.mk h
  have H' := Box.mk h'
  clear h h'
  by_cases hne : n = n'
  · subst hne
    go_enter Try.func50, Try.ntmps50
    go_wp2_with fail
    go_loopw [13] (fun i wr => Below W.heap.size W wr ∧ ∃ j : Nat, j ≤ n ∧ i = .int .i64 j ∧ l.take j = m.take j) (fun i _ => n - (intOf i).toNat)
    case atStart => exact ⟨Below.refl _ _, 0, Nat.zero_le _, rfl, rfl⟩
    case round =>
      obtain ⟨hbr, j, hj, rfl, ht⟩ := hrel
      have hsz := hbr.size
      by_cases hlt : j < n
      · have hlt' : (j : Int) < (n : Int) := by omega
        obtain ⟨x, hx⟩ : ∃ x, l[j]? = some x := ⟨_, List.getElem?_eq_getElem (by have := hl.out; omega)⟩
        obtain ⟨y, hy⟩ : ∃ x, m[j]? = some x := ⟨_, List.getElem?_eq_getElem (by have := hl'.out; omega)⟩
        obtain ⟨b, o, hae, hb, hr⟩ := SL.elem pointC_length H.out hx
        obtain ⟨b', o', hae', hb', hr'⟩ := SL.elem pointC_length H'.out hy
        subst hae hae'
        have R1 : rowOf wr b (o + j * 33) 33 = some (pointC x) := by rw [rowOf_congr (hbr.block b hb)]; exact hr
        have R2 : rowOf wr b' (o' + j * 33) 33 = some (pointC y) := by rw [rowOf_congr (hbr.block b' hb')]; exact hr'
        have s1 : b < wr.heap.size := by omega
        have s2 : b' < wr.heap.size := by omega
        replace hr := Box.mk hr
        replace hr' := Box.mk hr'
        by_cases he : x = y
        · have hnx := Box.mk (take_next hx hy he ht)
          have hq : eqB_pt x y = true := (eqB_pt_iff x y).2 he
          replace hx := Box.mk hx
          replace hy := Box.mk hy
          replace he := Box.mk he
          replace ht := Box.mk ht
          go_wp2_with fail
          (refine region_since (by kernel_rfl) (by kernel_rfl) ?_)
          repeat (first
            | (refine wpQuiet_goff rfl rfl rfl rfl ?_; simp only [Act.put, List.setIfInBounds_toArray, List.set_cons_succ, List.set_cons_zero])
            | (first
                 | refine wpQuiet_free rfl ?_
                 | refine wpQuiet_gon rfl rfl rfl rfl ?_
               apply Exists.intro
               refine ⟨fun w' hw' => ?_, ?_⟩
               · (obtain ⟨hc', hr', hs'⟩ := since_facts hw'
                  unfold Oper.quietAt
                  go_simp
                  try go_bits
                  first
                    | exact quietUpon_value rfl
                    | exact rfl
                    | (apply quietUpon_enter
                       first
                       | fail))
               simp only [Act.put, List.setIfInBounds_toArray, List.set_cons_succ, List.set_cons_zero]))
          first
            | refine wpQuiet_nil ?_
            | fail "QUIET stopped"
          intro wq hwq'
          go_wp2
          go_roundw
          case rel => exact ⟨since_next hbr hwq', j + 1, by omega, by go_num, hnx.out⟩
          case measure => simp [intOf]; omega
        · have hres := Box.mk (eqL_false eqB_pt_iff (ne_of_get hx hy he))
          have hq : eqB_pt x y = false := by cases hc : eqB_pt x y with | false => rfl | true => exact absurd ((eqB_pt_iff x y).1 hc) he
          replace hx := Box.mk hx
          replace hy := Box.mk hy
          replace he := Box.mk he
          replace ht := Box.mk ht
          go_wp2_with fail
          (refine region_since (by kernel_rfl) (by kernel_rfl) ?_)
          repeat (first
            | (refine wpQuiet_goff rfl rfl rfl rfl ?_; simp only [Act.put, List.setIfInBounds_toArray, List.set_cons_succ, List.set_cons_zero])
            | (first
                 | refine wpQuiet_free rfl ?_
                 | refine wpQuiet_gon rfl rfl rfl rfl ?_
               apply Exists.intro
               refine ⟨fun w' hw' => ?_, ?_⟩
               · (obtain ⟨hc', hr', hs'⟩ := since_facts hw'
                  unfold Oper.quietAt
                  go_simp
                  try go_bits
                  first
                    | exact quietUpon_value rfl
                    | exact rfl
                    | (apply quietUpon_enter
                       first
                       | fail))
               simp only [Act.put, List.setIfInBounds_toArray, List.set_cons_succ, List.set_cons_zero]))
          first
            | refine wpQuiet_nil ?_
            | fail "QUIET stopped"
          intro wq hwq'
          go_wp2
          go_ret
          exact gives_bool hres.out.symm (since_next hbr hwq')
      · obtain rfl : j = n := by omega
        have hres : eqL eqB_pt l m = true := (eqL_iff eqB_pt_iff l m).2 (by rw [hl.out, List.take_length] at ht; rw [ht, ← hl.out, hl'.out, List.take_length])
        replace hres := Box.mk hres
        replace ht := Box.mk ht
        go_wp2
        go_ret
        exact gives_bool hres.out.symm hbr
  · have hres : eqL eqB_pt l m = false := eqL_false eqB_pt_iff (fun e => hne (by rw [hl.out, hl'.out, e]))
    have hd1 : ((n : Int) == (n' : Int)) = false := by simp; omega
    have hd2 : ((n : Int) != (n' : Int)) = true := by simp; omega
    replace hres := Box.mk hres
    go_enter Try.func50, Try.ntmps50
    go_wp2
    go_ret
    exact gives_bool hres.out.symm (Below.refl _ _)

set_option maxHeartbeats 1000000 in
theorem slicesEq_out (a a' : Option Addr) (n n' c c' : Nat) (l m : List OutV) (W : World) (h : SL outC 33 W a n c l) (h' : SL outC 33 W a' n' c' m) (hn : n ≤ 100000) :
    Calls Try.prog 51 #[.slice a n c, .slice a' n' c'] W (Gives (.bool (eqL eqB_out l m)) W) := by
  have hl := Box.mk h.1
  have hl' := Box.mk h'.1
  have hcap := h.2.1
  have hcap' := h'.2.1
  have H := Box.mk h
  have H' := Box.mk h'
  clear h h'
  by_cases hne : n = n'
  · subst hne
    go_enter Try.func51, Try.ntmps51
    go_wp2_with fail
    go_loopw [13] (fun i wr => Below W.heap.size W wr ∧ ∃ j : Nat, j ≤ n ∧ i = .int .i64 j ∧ l.take j = m.take j) (fun i _ => n - (intOf i).toNat)
    case atStart => exact ⟨Below.refl _ _, 0, Nat.zero_le _, rfl, rfl⟩
    case round =>
      obtain ⟨hbr, j, hj, rfl, ht⟩ := hrel
      have hsz := hbr.size
      by_cases hlt : j < n
      · have hlt' : (j : Int) < (n : Int) := by omega
        obtain ⟨x, hx⟩ : ∃ x, l[j]? = some x := ⟨_, List.getElem?_eq_getElem (by have := hl.out; omega)⟩
        obtain ⟨y, hy⟩ : ∃ x, m[j]? = some x := ⟨_, List.getElem?_eq_getElem (by have := hl'.out; omega)⟩
        obtain ⟨b, o, hae, hb, hr⟩ := SL.elem outC_length H.out hx
        obtain ⟨b', o', hae', hb', hr'⟩ := SL.elem outC_length H'.out hy
        subst hae hae'
        have R1 : rowOf wr b (o + j * 33) 33 = some (outC x) := by rw [rowOf_congr (hbr.block b hb)]; exact hr
        have R2 : rowOf wr b' (o' + j * 33) 33 = some (outC y) := by rw [rowOf_congr (hbr.block b' hb')]; exact hr'
        have s1 : b < wr.heap.size := by omega
        have s2 : b' < wr.heap.size := by omega
        replace hr := Box.mk hr
        replace hr' := Box.mk hr'
        by_cases he : x = y
        · have hnx := Box.mk (take_next hx hy he ht)
          have hq : eqB_out x y = true := (eqB_out_iff x y).2 he
          replace hx := Box.mk hx
          replace hy := Box.mk hy
          replace he := Box.mk he
          replace ht := Box.mk ht
          go_wp2_with fail
          (refine region_since (by kernel_rfl) (by kernel_rfl) ?_)
          repeat (first
            | (refine wpQuiet_goff rfl rfl rfl rfl ?_; simp only [Act.put, List.setIfInBounds_toArray, List.set_cons_succ, List.set_cons_zero])
            | (first
                 | refine wpQuiet_free rfl ?_
                 | refine wpQuiet_gon rfl rfl rfl rfl ?_
               apply Exists.intro
               refine ⟨fun w' hw' => ?_, ?_⟩
               · (obtain ⟨hc', hr', hs'⟩ := since_facts hw'
                  unfold Oper.quietAt
                  go_simp
                  try go_bits
                  first
                    | exact quietUpon_value rfl
                    | exact rfl
                    | (apply quietUpon_enter
                       first
                       | fail))
               simp only [Act.put, List.setIfInBounds_toArray, List.set_cons_succ, List.set_cons_zero]))
          first
            | refine wpQuiet_nil ?_
            | fail "QUIET stopped"
          intro wq hwq'
          go_wp2
          go_roundw
          case rel => exact ⟨since_next hbr hwq', j + 1, by omega, by go_num, hnx.out⟩
          case measure => simp [intOf]; omega
        · have hres := Box.mk (eqL_false eqB_out_iff (ne_of_get hx hy he))
          have hq : eqB_out x y = false := by cases hc : eqB_out x y with | false => rfl | true => exact absurd ((eqB_out_iff x y).1 hc) he
          replace hx := Box.mk hx
          replace hy := Box.mk hy
          replace he := Box.mk he
          replace ht := Box.mk ht
          go_wp2_with fail
          (refine region_since (by kernel_rfl) (by kernel_rfl) ?_)
          repeat (first
            | (refine wpQuiet_goff rfl rfl rfl rfl ?_; simp only [Act.put, List.setIfInBounds_toArray, List.set_cons_succ, List.set_cons_zero])
            | (first
                 | refine wpQuiet_free rfl ?_
                 | refine wpQuiet_gon rfl rfl rfl rfl ?_
               apply Exists.intro
               refine ⟨fun w' hw' => ?_, ?_⟩
               · (obtain ⟨hc', hr', hs'⟩ := since_facts hw'
                  unfold Oper.quietAt
                  go_simp
                  try go_bits
                  first
                    | exact quietUpon_value rfl
                    | exact rfl
                    | (apply quietUpon_enter
                       first
                       | fail))
               simp only [Act.put, List.setIfInBounds_toArray, List.set_cons_succ, List.set_cons_zero]))
          first
            | refine wpQuiet_nil ?_
            | fail "QUIET stopped"
          intro wq hwq'
          go_wp2
          go_ret
          exact gives_bool hres.out.symm (since_next hbr hwq')
      · obtain rfl : j = n := by omega
        have hres : eqL eqB_out l m = true := (eqL_iff eqB_out_iff l m).2 (by rw [hl.out, List.take_length] at ht; rw [ht, ← hl.out, hl'.out, List.take_length])
        replace hres := Box.mk hres
        replace ht := Box.mk ht
        go_wp2
        go_ret
        exact gives_bool hres.out.symm hbr
  · have hres : eqL eqB_out l m = false := eqL_false eqB_out_iff (fun e => hne (by rw [hl.out, hl'.out, e]))
    have hd1 : ((n : Int) == (n' : Int)) = false := by simp; omega
    have hd2 : ((n : Int) != (n' : Int)) = true := by simp; omega
    replace hres := Box.mk hres
    go_enter Try.func51, Try.ntmps51
    go_wp2
    go_ret
    exact gives_bool hres.out.symm (Below.refl _ _)

set_option maxHeartbeats 1000000 in
theorem slicesEq_key (a a' : Option Addr) (n n' c c' : Nat) (l m : List Key) (W : World) (h : SL keyC 32 W a n c l) (h' : SL keyC 32 W a' n' c' m) (hn : n ≤ 100000) :
    Calls Try.prog 52 #[.slice a n c, .slice a' n' c'] W (Gives (.bool (eqL eqB_key l m)) W) := by
  have hl := Box.mk h.1
  have hl' := Box.mk h'.1
  have hcap := h.2.1
  have hcap' := h'.2.1
  have H := Box.mk h
  have H' := Box.mk h'
  clear h h'
  by_cases hne : n = n'
  · subst hne
    go_enter Try.func52, Try.ntmps52
    go_wp2_with fail
    go_loopw [13] (fun i wr => Below W.heap.size W wr ∧ ∃ j : Nat, j ≤ n ∧ i = .int .i64 j ∧ l.take j = m.take j) (fun i _ => n - (intOf i).toNat)
    case atStart => exact ⟨Below.refl _ _, 0, Nat.zero_le _, rfl, rfl⟩
    case round =>
      obtain ⟨hbr, j, hj, rfl, ht⟩ := hrel
      have hsz := hbr.size
      by_cases hlt : j < n
      · have hlt' : (j : Int) < (n : Int) := by omega
        obtain ⟨x, hx⟩ : ∃ x, l[j]? = some x := ⟨_, List.getElem?_eq_getElem (by have := hl.out; omega)⟩
        obtain ⟨y, hy⟩ : ∃ x, m[j]? = some x := ⟨_, List.getElem?_eq_getElem (by have := hl'.out; omega)⟩
        obtain ⟨b, o, hae, hb, hr⟩ := SL.elem keyC_length H.out hx
        obtain ⟨b', o', hae', hb', hr'⟩ := SL.elem keyC_length H'.out hy
        subst hae hae'
        have R1 : rowOf wr b (o + j * 32) 32 = some (keyC x) := by rw [rowOf_congr (hbr.block b hb)]; exact hr
        have R2 : rowOf wr b' (o' + j * 32) 32 = some (keyC y) := by rw [rowOf_congr (hbr.block b' hb')]; exact hr'
        have s1 : b < wr.heap.size := by omega
        have s2 : b' < wr.heap.size := by omega
        replace hr := Box.mk hr
        replace hr' := Box.mk hr'
        by_cases he : x = y
        · have hnx := Box.mk (take_next hx hy he ht)
          have hq : (x == y) = true := (eqB_key_iff x y).2 he
          replace hx := Box.mk hx
          replace hy := Box.mk hy
          replace he := Box.mk he
          replace ht := Box.mk ht
          go_wp2_with fail
          (refine region_since (by kernel_rfl) (by kernel_rfl) ?_)
          repeat (first
            | (refine wpQuiet_goff rfl rfl rfl rfl ?_; simp only [Act.put, List.setIfInBounds_toArray, List.set_cons_succ, List.set_cons_zero])
            | (first
                 | refine wpQuiet_free rfl ?_
                 | refine wpQuiet_gon rfl rfl rfl rfl ?_
               apply Exists.intro
               refine ⟨fun w' hw' => ?_, ?_⟩
               · (obtain ⟨hc', hr', hs'⟩ := since_facts hw'
                  unfold Oper.quietAt
                  go_simp
                  try go_bits
                  first
                    | exact quietUpon_value rfl
                    | exact rfl
                    | (apply quietUpon_enter
                       first
                       | fail))
               simp only [Act.put, List.setIfInBounds_toArray, List.set_cons_succ, List.set_cons_zero]))
          first
            | refine wpQuiet_nil ?_
            | fail "QUIET stopped"
          intro wq hwq'
          go_wp2
          go_roundw
          case rel => exact ⟨since_next hbr hwq', j + 1, by omega, by go_num, hnx.out⟩
          case measure => simp [intOf]; omega
        · have hres := Box.mk (eqL_false eqB_key_iff (ne_of_get hx hy he))
          have hq : (x == y) = false := by cases hc : eqB_key x y with | false => exact hc | true => exact absurd ((eqB_key_iff x y).1 hc) he
          replace hx := Box.mk hx
          replace hy := Box.mk hy
          replace he := Box.mk he
          replace ht := Box.mk ht
          go_wp2_with fail
          (refine region_since (by kernel_rfl) (by kernel_rfl) ?_)
          repeat (first
            | (refine wpQuiet_goff rfl rfl rfl rfl ?_; simp only [Act.put, List.setIfInBounds_toArray, List.set_cons_succ, List.set_cons_zero])
            | (first
                 | refine wpQuiet_free rfl ?_
                 | refine wpQuiet_gon rfl rfl rfl rfl ?_
               apply Exists.intro
               refine ⟨fun w' hw' => ?_, ?_⟩
               · (obtain ⟨hc', hr', hs'⟩ := since_facts hw'
                  unfold Oper.quietAt
                  go_simp
                  try go_bits
                  first
                    | exact quietUpon_value rfl
                    | exact rfl
                    | (apply quietUpon_enter
                       first
                       | fail))
               simp only [Act.put, List.setIfInBounds_toArray, List.set_cons_succ, List.set_cons_zero]))
          first
            | refine wpQuiet_nil ?_
            | fail "QUIET stopped"
          intro wq hwq'
          go_wp2
          go_ret
          exact gives_bool hres.out.symm (since_next hbr hwq')
      · obtain rfl : j = n := by omega
        have hres : eqL eqB_key l m = true := (eqL_iff eqB_key_iff l m).2 (by rw [hl.out, List.take_length] at ht; rw [ht, ← hl.out, hl'.out, List.take_length])
        replace hres := Box.mk hres
        replace ht := Box.mk ht
        go_wp2
        go_ret
        exact gives_bool hres.out.symm hbr
  · have hres : eqL eqB_key l m = false := eqL_false eqB_key_iff (fun e => hne (by rw [hl.out, hl'.out, e]))
    have hd1 : ((n : Int) == (n' : Int)) = false := by simp; omega
    have hd2 : ((n : Int) != (n' : Int)) = true := by simp; omega
    replace hres := Box.mk hres
    go_enter Try.func52, Try.ntmps52
    go_wp2
    go_ret
    exact gives_bool hres.out.symm (Below.refl _ _)

/-- Two transactions' cells. -/
theorem two_tx {W : World} {t u : TxV} : ((W.alloc (.cells (txC t).toArray 29)).alloc (.cells (txC u).toArray 29)).heap[W.heap.size]? = some (.cells (txC t).toArray 29 (0, 0)) ∧
    ((W.alloc (.cells (txC t).toArray 29)).alloc (.cells (txC u).toArray 29)).heap[W.heap.size + 1]? = some (.cells (txC u).toArray 29 (0, 0)) :=
  ⟨by rw [Below.heap_alloc _ _ _ (by simp)]; exact heap_alloc_new W _, by have := heap_alloc_new (W.alloc (.cells (txC t).toArray 29)) (.cells (txC u).toArray 29); rw [World.size_alloc] at this; exact this⟩

set_option maxHeartbeats 4000000 in
theorem txSame_any (t u : TxV) (d e : TxD) (W : World) (h : TxL W t d) (h' : TxL W u e) (hn : t.ins.len ≤ 100000 ∧ t.outs.len ≤ 100000 ∧ t.nulls.len ≤ 100000 ∧ t.notes.len ≤ 100000) : Calls Try.prog 22 #[.agg (txC t).toArray, .agg (txC u).toArray] W (Gives (.bool (sameB d e)) W) := by
  have hB0 : Below W.heap.size W ((W.alloc (.cells (txC t).toArray 29)).alloc (.cells (txC u).toArray 29)) := ((Below.refl _ _).alloc (Nat.le_refl _) _).alloc (by simp) _
  obtain ⟨k1, k2⟩ := two_tx (W := W) (t := t) (u := u)
  obtain ⟨t0, t1, t2, t3, t4, t5, t6, t7⟩ := tx_all k1
  obtain ⟨u0, u1, u2, u3, u4, u5, u6, u7⟩ := tx_all k2
  have L := Box.mk (h.below hB0)
  have L' := Box.mk (h'.below hB0)
  have hexp : (t.exp == u.exp) = (d.exp == e.exp) := by rw [h.exp.1, h'.exp.1]
  have hanc : (t.anchor == u.anchor) = (d.anchor == e.anchor) := by rw [h.anchor, h'.anchor]
  have hbal : (t.bal == u.bal) = (d.bal == e.bal) := by rw [h.bal.1, h'.bal.1]
  have hN := Box.mk hn
  clear h h' hn k1 k2
  unfold sameB
  generalize (d.exp == e.exp) = b1 at *
  generalize (d.anchor == e.anchor) = b2 at *
  generalize (d.bal == e.bal) = b3 at *
  generalize hE4 : eqL eqB_pt d.ins e.ins = b4
  generalize hE5 : eqL eqB_out d.outs e.outs = b5
  generalize hE6 : eqL eqB_key d.nulls e.nulls = b6
  generalize hE7 : eqL eqB_key d.notes e.notes = b7
  replace hE4 := Box.mk hE4
  replace hE5 := Box.mk hE5
  replace hE6 := Box.mk hE6
  replace hE7 := Box.mk hE7
  have key : b1 = false ∨ (b1 = true ∧ b2 = false) ∨ (b1 = true ∧ b2 = true ∧ b3 = false) ∨ (b1 = true ∧ b2 = true ∧ b3 = true ∧ b4 = false) ∨ (b1 = true ∧ b2 = true ∧ b3 = true ∧ b4 = true ∧ b5 = false) ∨ (b1 = true ∧ b2 = true ∧ b3 = true ∧ b4 = true ∧ b5 = true ∧ b6 = false) ∨ (b1 = true ∧ b2 = true ∧ b3 = true ∧ b4 = true ∧ b5 = true ∧ b6 = true) := by
    cases b1 <;> cases b2 <;> cases b3 <;> cases b4 <;> cases b5 <;> cases b6 <;> simp
  have t2z := Box.mk t2; have t3z := Box.mk t3; have t5z := Box.mk t5; have t6z := Box.mk t6; have u2z := Box.mk u2; have u3z := Box.mk u3; have u5z := Box.mk u5; have u6z := Box.mk u6
  rcases key with rfl | ⟨rfl, rfl⟩ | ⟨rfl, rfl, rfl⟩ | ⟨rfl, rfl, rfl, rfl⟩ | ⟨rfl, rfl, rfl, rfl, rfl⟩ | ⟨rfl, rfl, rfl, rfl, rfl, rfl⟩ | ⟨rfl, rfl, rfl, rfl, rfl, rfl⟩
  · go_enter Try.func22, Try.ntmps22
    go_wp2
    go_ret
    exact gives_bool rfl hB0
  · go_enter Try.func22, Try.ntmps22
    go_wp2
    go_ret
    exact gives_bool rfl hB0
  · go_enter Try.func22, Try.ntmps22
    go_wp2
    go_ret
    exact gives_bool rfl hB0
  · go_enter Try.func22, Try.ntmps22
    go_wp2_with fail
    generalize (W.alloc (.cells (txC t).toArray 29)).alloc (.cells (txC u).toArray 29) = w0 at *
    refine (slicesEq_pt t.ins.a u.ins.a t.ins.len u.ins.len t.ins.cap u.ins.cap d.ins e.ins _ L.out.ins L'.out.ins hN.out.1).mono ?_
    rw [hE4.out]
    rintro e' w1 ⟨rfl, q1⟩
    have Q1 : Below w0.heap.size w0 w1 := q1
    clear q1
    replace t2 := (Q1.cell (p := ⟨W.heap.size, 1, none⟩) t0).trans (t2z.out)
    replace u2 := (Q1.cell (p := ⟨W.heap.size + 1, 1, none⟩) u0).trans (u2z.out)
    replace t3 := (Q1.cell (p := ⟨W.heap.size, 2, none⟩) t0).trans (t3z.out)
    replace u3 := (Q1.cell (p := ⟨W.heap.size + 1, 2, none⟩) u0).trans (u3z.out)
    replace t5 := (Q1.cell (p := ⟨W.heap.size, 35, none⟩) t0).trans (t5z.out)
    replace u5 := (Q1.cell (p := ⟨W.heap.size + 1, 35, none⟩) u0).trans (u5z.out)
    replace t6 := (Q1.cell (p := ⟨W.heap.size, 36, none⟩) t0).trans (t6z.out)
    replace u6 := (Q1.cell (p := ⟨W.heap.size + 1, 36, none⟩) u0).trans (u6z.out)
    have s1 : W.heap.size < w1.heap.size := Nat.lt_of_lt_of_le t0 Q1.size
    have z1 : W.heap.size + 1 < w1.heap.size := Nat.lt_of_lt_of_le u0 Q1.size
    go_wp2
    go_ret
    exact gives_bool rfl (hB0.trans (Q1.mono hB0.size))
  · go_enter Try.func22, Try.ntmps22
    go_wp2_with fail
    generalize (W.alloc (.cells (txC t).toArray 29)).alloc (.cells (txC u).toArray 29) = w0 at *
    refine (slicesEq_pt t.ins.a u.ins.a t.ins.len u.ins.len t.ins.cap u.ins.cap d.ins e.ins _ L.out.ins L'.out.ins hN.out.1).mono ?_
    rw [hE4.out]
    rintro e' w1 ⟨rfl, q1⟩
    have Q1 : Below w0.heap.size w0 w1 := q1
    clear q1
    replace t2 := (Q1.cell (p := ⟨W.heap.size, 1, none⟩) t0).trans (t2z.out)
    replace u2 := (Q1.cell (p := ⟨W.heap.size + 1, 1, none⟩) u0).trans (u2z.out)
    replace t3 := (Q1.cell (p := ⟨W.heap.size, 2, none⟩) t0).trans (t3z.out)
    replace u3 := (Q1.cell (p := ⟨W.heap.size + 1, 2, none⟩) u0).trans (u3z.out)
    replace t5 := (Q1.cell (p := ⟨W.heap.size, 35, none⟩) t0).trans (t5z.out)
    replace u5 := (Q1.cell (p := ⟨W.heap.size + 1, 35, none⟩) u0).trans (u5z.out)
    replace t6 := (Q1.cell (p := ⟨W.heap.size, 36, none⟩) t0).trans (t6z.out)
    replace u6 := (Q1.cell (p := ⟨W.heap.size + 1, 36, none⟩) u0).trans (u6z.out)
    have s1 : W.heap.size < w1.heap.size := Nat.lt_of_lt_of_le t0 Q1.size
    have z1 : W.heap.size + 1 < w1.heap.size := Nat.lt_of_lt_of_le u0 Q1.size
    go_wp2_with fail
    refine (slicesEq_out t.outs.a u.outs.a t.outs.len u.outs.len t.outs.cap u.outs.cap d.outs e.outs _ (L.out.outs.below Q1) (L'.out.outs.below Q1) hN.out.2.1).mono ?_
    rw [hE5.out]
    rintro e' w2 ⟨rfl, q2⟩
    have Q2 : Below w0.heap.size w0 w2 := Q1.trans (q2.mono Q1.size)
    clear q2
    replace t2 := (Q2.cell (p := ⟨W.heap.size, 1, none⟩) t0).trans (t2z.out)
    replace u2 := (Q2.cell (p := ⟨W.heap.size + 1, 1, none⟩) u0).trans (u2z.out)
    replace t3 := (Q2.cell (p := ⟨W.heap.size, 2, none⟩) t0).trans (t3z.out)
    replace u3 := (Q2.cell (p := ⟨W.heap.size + 1, 2, none⟩) u0).trans (u3z.out)
    replace t5 := (Q2.cell (p := ⟨W.heap.size, 35, none⟩) t0).trans (t5z.out)
    replace u5 := (Q2.cell (p := ⟨W.heap.size + 1, 35, none⟩) u0).trans (u5z.out)
    replace t6 := (Q2.cell (p := ⟨W.heap.size, 36, none⟩) t0).trans (t6z.out)
    replace u6 := (Q2.cell (p := ⟨W.heap.size + 1, 36, none⟩) u0).trans (u6z.out)
    have s2 : W.heap.size < w2.heap.size := Nat.lt_of_lt_of_le t0 Q2.size
    have z2 : W.heap.size + 1 < w2.heap.size := Nat.lt_of_lt_of_le u0 Q2.size
    go_wp2
    go_ret
    exact gives_bool rfl (hB0.trans (Q2.mono hB0.size))
  · go_enter Try.func22, Try.ntmps22
    go_wp2_with fail
    generalize (W.alloc (.cells (txC t).toArray 29)).alloc (.cells (txC u).toArray 29) = w0 at *
    refine (slicesEq_pt t.ins.a u.ins.a t.ins.len u.ins.len t.ins.cap u.ins.cap d.ins e.ins _ L.out.ins L'.out.ins hN.out.1).mono ?_
    rw [hE4.out]
    rintro e' w1 ⟨rfl, q1⟩
    have Q1 : Below w0.heap.size w0 w1 := q1
    clear q1
    replace t2 := (Q1.cell (p := ⟨W.heap.size, 1, none⟩) t0).trans (t2z.out)
    replace u2 := (Q1.cell (p := ⟨W.heap.size + 1, 1, none⟩) u0).trans (u2z.out)
    replace t3 := (Q1.cell (p := ⟨W.heap.size, 2, none⟩) t0).trans (t3z.out)
    replace u3 := (Q1.cell (p := ⟨W.heap.size + 1, 2, none⟩) u0).trans (u3z.out)
    replace t5 := (Q1.cell (p := ⟨W.heap.size, 35, none⟩) t0).trans (t5z.out)
    replace u5 := (Q1.cell (p := ⟨W.heap.size + 1, 35, none⟩) u0).trans (u5z.out)
    replace t6 := (Q1.cell (p := ⟨W.heap.size, 36, none⟩) t0).trans (t6z.out)
    replace u6 := (Q1.cell (p := ⟨W.heap.size + 1, 36, none⟩) u0).trans (u6z.out)
    have s1 : W.heap.size < w1.heap.size := Nat.lt_of_lt_of_le t0 Q1.size
    have z1 : W.heap.size + 1 < w1.heap.size := Nat.lt_of_lt_of_le u0 Q1.size
    go_wp2_with fail
    refine (slicesEq_out t.outs.a u.outs.a t.outs.len u.outs.len t.outs.cap u.outs.cap d.outs e.outs _ (L.out.outs.below Q1) (L'.out.outs.below Q1) hN.out.2.1).mono ?_
    rw [hE5.out]
    rintro e' w2 ⟨rfl, q2⟩
    have Q2 : Below w0.heap.size w0 w2 := Q1.trans (q2.mono Q1.size)
    clear q2
    replace t2 := (Q2.cell (p := ⟨W.heap.size, 1, none⟩) t0).trans (t2z.out)
    replace u2 := (Q2.cell (p := ⟨W.heap.size + 1, 1, none⟩) u0).trans (u2z.out)
    replace t3 := (Q2.cell (p := ⟨W.heap.size, 2, none⟩) t0).trans (t3z.out)
    replace u3 := (Q2.cell (p := ⟨W.heap.size + 1, 2, none⟩) u0).trans (u3z.out)
    replace t5 := (Q2.cell (p := ⟨W.heap.size, 35, none⟩) t0).trans (t5z.out)
    replace u5 := (Q2.cell (p := ⟨W.heap.size + 1, 35, none⟩) u0).trans (u5z.out)
    replace t6 := (Q2.cell (p := ⟨W.heap.size, 36, none⟩) t0).trans (t6z.out)
    replace u6 := (Q2.cell (p := ⟨W.heap.size + 1, 36, none⟩) u0).trans (u6z.out)
    have s2 : W.heap.size < w2.heap.size := Nat.lt_of_lt_of_le t0 Q2.size
    have z2 : W.heap.size + 1 < w2.heap.size := Nat.lt_of_lt_of_le u0 Q2.size
    go_wp2_with fail
    refine (slicesEq_key t.nulls.a u.nulls.a t.nulls.len u.nulls.len t.nulls.cap u.nulls.cap d.nulls e.nulls _ (L.out.nulls.below Q2) (L'.out.nulls.below Q2) hN.out.2.2.1).mono ?_
    rw [hE6.out]
    rintro e' w3 ⟨rfl, q3⟩
    have Q3 : Below w0.heap.size w0 w3 := Q2.trans (q3.mono Q2.size)
    clear q3
    replace t2 := (Q3.cell (p := ⟨W.heap.size, 1, none⟩) t0).trans (t2z.out)
    replace u2 := (Q3.cell (p := ⟨W.heap.size + 1, 1, none⟩) u0).trans (u2z.out)
    replace t3 := (Q3.cell (p := ⟨W.heap.size, 2, none⟩) t0).trans (t3z.out)
    replace u3 := (Q3.cell (p := ⟨W.heap.size + 1, 2, none⟩) u0).trans (u3z.out)
    replace t5 := (Q3.cell (p := ⟨W.heap.size, 35, none⟩) t0).trans (t5z.out)
    replace u5 := (Q3.cell (p := ⟨W.heap.size + 1, 35, none⟩) u0).trans (u5z.out)
    replace t6 := (Q3.cell (p := ⟨W.heap.size, 36, none⟩) t0).trans (t6z.out)
    replace u6 := (Q3.cell (p := ⟨W.heap.size + 1, 36, none⟩) u0).trans (u6z.out)
    have s3 : W.heap.size < w3.heap.size := Nat.lt_of_lt_of_le t0 Q3.size
    have z3 : W.heap.size + 1 < w3.heap.size := Nat.lt_of_lt_of_le u0 Q3.size
    go_wp2
    go_ret
    exact gives_bool rfl (hB0.trans (Q3.mono hB0.size))
  · go_enter Try.func22, Try.ntmps22
    go_wp2_with fail
    generalize (W.alloc (.cells (txC t).toArray 29)).alloc (.cells (txC u).toArray 29) = w0 at *
    refine (slicesEq_pt t.ins.a u.ins.a t.ins.len u.ins.len t.ins.cap u.ins.cap d.ins e.ins _ L.out.ins L'.out.ins hN.out.1).mono ?_
    rw [hE4.out]
    rintro e' w1 ⟨rfl, q1⟩
    have Q1 : Below w0.heap.size w0 w1 := q1
    clear q1
    replace t2 := (Q1.cell (p := ⟨W.heap.size, 1, none⟩) t0).trans (t2z.out)
    replace u2 := (Q1.cell (p := ⟨W.heap.size + 1, 1, none⟩) u0).trans (u2z.out)
    replace t3 := (Q1.cell (p := ⟨W.heap.size, 2, none⟩) t0).trans (t3z.out)
    replace u3 := (Q1.cell (p := ⟨W.heap.size + 1, 2, none⟩) u0).trans (u3z.out)
    replace t5 := (Q1.cell (p := ⟨W.heap.size, 35, none⟩) t0).trans (t5z.out)
    replace u5 := (Q1.cell (p := ⟨W.heap.size + 1, 35, none⟩) u0).trans (u5z.out)
    replace t6 := (Q1.cell (p := ⟨W.heap.size, 36, none⟩) t0).trans (t6z.out)
    replace u6 := (Q1.cell (p := ⟨W.heap.size + 1, 36, none⟩) u0).trans (u6z.out)
    have s1 : W.heap.size < w1.heap.size := Nat.lt_of_lt_of_le t0 Q1.size
    have z1 : W.heap.size + 1 < w1.heap.size := Nat.lt_of_lt_of_le u0 Q1.size
    go_wp2_with fail
    refine (slicesEq_out t.outs.a u.outs.a t.outs.len u.outs.len t.outs.cap u.outs.cap d.outs e.outs _ (L.out.outs.below Q1) (L'.out.outs.below Q1) hN.out.2.1).mono ?_
    rw [hE5.out]
    rintro e' w2 ⟨rfl, q2⟩
    have Q2 : Below w0.heap.size w0 w2 := Q1.trans (q2.mono Q1.size)
    clear q2
    replace t2 := (Q2.cell (p := ⟨W.heap.size, 1, none⟩) t0).trans (t2z.out)
    replace u2 := (Q2.cell (p := ⟨W.heap.size + 1, 1, none⟩) u0).trans (u2z.out)
    replace t3 := (Q2.cell (p := ⟨W.heap.size, 2, none⟩) t0).trans (t3z.out)
    replace u3 := (Q2.cell (p := ⟨W.heap.size + 1, 2, none⟩) u0).trans (u3z.out)
    replace t5 := (Q2.cell (p := ⟨W.heap.size, 35, none⟩) t0).trans (t5z.out)
    replace u5 := (Q2.cell (p := ⟨W.heap.size + 1, 35, none⟩) u0).trans (u5z.out)
    replace t6 := (Q2.cell (p := ⟨W.heap.size, 36, none⟩) t0).trans (t6z.out)
    replace u6 := (Q2.cell (p := ⟨W.heap.size + 1, 36, none⟩) u0).trans (u6z.out)
    have s2 : W.heap.size < w2.heap.size := Nat.lt_of_lt_of_le t0 Q2.size
    have z2 : W.heap.size + 1 < w2.heap.size := Nat.lt_of_lt_of_le u0 Q2.size
    go_wp2_with fail
    refine (slicesEq_key t.nulls.a u.nulls.a t.nulls.len u.nulls.len t.nulls.cap u.nulls.cap d.nulls e.nulls _ (L.out.nulls.below Q2) (L'.out.nulls.below Q2) hN.out.2.2.1).mono ?_
    rw [hE6.out]
    rintro e' w3 ⟨rfl, q3⟩
    have Q3 : Below w0.heap.size w0 w3 := Q2.trans (q3.mono Q2.size)
    clear q3
    replace t2 := (Q3.cell (p := ⟨W.heap.size, 1, none⟩) t0).trans (t2z.out)
    replace u2 := (Q3.cell (p := ⟨W.heap.size + 1, 1, none⟩) u0).trans (u2z.out)
    replace t3 := (Q3.cell (p := ⟨W.heap.size, 2, none⟩) t0).trans (t3z.out)
    replace u3 := (Q3.cell (p := ⟨W.heap.size + 1, 2, none⟩) u0).trans (u3z.out)
    replace t5 := (Q3.cell (p := ⟨W.heap.size, 35, none⟩) t0).trans (t5z.out)
    replace u5 := (Q3.cell (p := ⟨W.heap.size + 1, 35, none⟩) u0).trans (u5z.out)
    replace t6 := (Q3.cell (p := ⟨W.heap.size, 36, none⟩) t0).trans (t6z.out)
    replace u6 := (Q3.cell (p := ⟨W.heap.size + 1, 36, none⟩) u0).trans (u6z.out)
    have s3 : W.heap.size < w3.heap.size := Nat.lt_of_lt_of_le t0 Q3.size
    have z3 : W.heap.size + 1 < w3.heap.size := Nat.lt_of_lt_of_le u0 Q3.size
    go_wp2_with fail
    refine (slicesEq_key t.notes.a u.notes.a t.notes.len u.notes.len t.notes.cap u.notes.cap d.notes e.notes _ (L.out.notes.below Q3) (L'.out.notes.below Q3) hN.out.2.2.2).mono ?_
    rw [hE7.out]
    rintro e' w4 ⟨rfl, q4⟩
    have Q4 : Below w0.heap.size w0 w4 := Q3.trans (q4.mono Q3.size)
    clear q4
    replace t2 := (Q4.cell (p := ⟨W.heap.size, 1, none⟩) t0).trans (t2z.out)
    replace u2 := (Q4.cell (p := ⟨W.heap.size + 1, 1, none⟩) u0).trans (u2z.out)
    replace t3 := (Q4.cell (p := ⟨W.heap.size, 2, none⟩) t0).trans (t3z.out)
    replace u3 := (Q4.cell (p := ⟨W.heap.size + 1, 2, none⟩) u0).trans (u3z.out)
    replace t5 := (Q4.cell (p := ⟨W.heap.size, 35, none⟩) t0).trans (t5z.out)
    replace u5 := (Q4.cell (p := ⟨W.heap.size + 1, 35, none⟩) u0).trans (u5z.out)
    replace t6 := (Q4.cell (p := ⟨W.heap.size, 36, none⟩) t0).trans (t6z.out)
    replace u6 := (Q4.cell (p := ⟨W.heap.size + 1, 36, none⟩) u0).trans (u6z.out)
    have s4 : W.heap.size < w4.heap.size := Nat.lt_of_lt_of_le t0 Q4.size
    have z4 : W.heap.size + 1 < w4.heap.size := Nat.lt_of_lt_of_le u0 Q4.size
    go_wp2
    go_ret
    exact gives_bool rfl (hB0.trans (Q4.mono hB0.size))

end Go.Proofs.Ytfnlgihkofkibaa
