/- Slices of points, in this seat's numbers. -/
import Derived.Test.YtoojmcijldlinaaTx
import Derived.Test.YtoojmcijldlinaaKeys3
namespace Go.Proofs.Ytoojmcijldlinaa
open Go.RowKit
set_option linter.unusedVariables false
set_option linter.unusedSimpArgs false

theorem load_pt (ρ : Operand → Value) (dst : Option Tmp) (x : Operand) (t : TypeId) (pos : String) (after : Array Edge) (guard : Option (Nat × Bool)) (w : World) :
    (execOp ρ ⟨dst, .load 38 x, t, pos, after, guard⟩).run Try.prog w = loadTo Try.prog 38 33 w (ρ x) :=
  exec_load Try.underlying38 rfl (by kernel_rfl) ρ dst x t pos after guard w
theorem store_pt (ρ : Operand → Value) (dst : Option Tmp) (a x : Operand) (t : TypeId) (pos : String) (after : Array Edge) (guard : Option (Nat × Bool)) (w : World) :
    (execOp ρ ⟨dst, .store 38 a x, t, pos, after, guard⟩).run Try.prog w = storeTo Try.prog 38 33 w (ρ a) (ρ x) :=
  exec_store (by kernel_rfl) ρ dst a x t pos after guard w
theorem alloc_pt (ρ : Operand → Value) (dst : Option Tmp) (t : TypeId) (pos : String) (after : Array Edge) (guard : Option (Nat × Bool)) (w : World) :
    (execOp ρ ⟨dst, .alloc 38, t, pos, after, guard⟩).run Try.prog w = .ok (.value (.pointer (some ⟨w.heap.size, 0, none⟩))) (w.alloc (.cells (pointC zeroPoint).toArray 38)) :=
  exec_alloc (by kernel_rfl) ρ dst t pos after guard w
theorem build0_pt (ρ : Operand → Value) (dst : Option Tmp) (t : TypeId) (pos : String) (after : Array Edge) (guard : Option (Nat × Bool)) (w : World) :
    (execOp ρ ⟨dst, .build 38 #[], t, pos, after, guard⟩).run Try.prog w = .ok (.value (.agg (pointC zeroPoint).toArray)) w :=
  exec_build0 (fun w => by kernel_rfl) ρ dst t pos after guard w
theorem info_pt : ∃ i, Try.prog.info? 38 = some i ∧ i.size = 33 ∧ i.zero = some (.agg (pointC zeroPoint).toArray) := by
  have h : (Try.prog.info? 38).map (fun i => (i.size, i.zero)) = some (33, some (.agg (pointC zeroPoint).toArray)) := by kernel_rfl
  obtain ⟨i, hi, h'⟩ := Option.map_eq_some_iff.1 h
  exact ⟨i, hi, congrArg Prod.fst h', congrArg Prod.snd h'⟩
theorem one_pt (ρ : Operand → Value) (dst : Option Tmp) (x : Operand) (t : TypeId) (pos : String) (after : Array Edge) (guard : Option (Nat × Bool)) (w : World) :
    (execOp ρ ⟨dst, .buildSlice 29 1 #[(0, x)], t, pos, after, guard⟩).run Try.prog w = oneTo Try.prog 29 38 33 w (ρ x) := by
  obtain ⟨i, hi, hs, hz⟩ := info_pt
  exact exec_one Try.underlying29 hi hs (by omega) (by omega) hz (by simp [go_sem]) ρ dst x t pos after guard w

theorem info_pts : ∃ i, Try.prog.info? 38 = some i ∧ i.size = 33 ∧ i.bytes = 36 ∧ i.zero = some (.agg (pointC zeroPoint).toArray) := by
  have h : (Try.prog.info? 38).map (fun i => (i.size, i.bytes, i.zero)) = some (33, 36, some (.agg (pointC zeroPoint).toArray)) := by kernel_rfl
  obtain ⟨i, hi, h'⟩ := Option.map_eq_some_iff.1 h
  simp only [Prod.mk.injEq] at h'
  exact ⟨i, hi, h'.1, h'.2.1, h'.2.2⟩
theorem sizeOf_pt (w : World) : (sizeOf 38).run Try.prog w = .ok 33 w := by kernel_rfl
theorem append_pt (ρ : Operand → Value) (dst : Option Tmp) (x y : Operand) (ty : TypeId) (pos : String) (after : Array Edge) (guard : Option (Nat × Bool)) (w : World) :
    (execOp ρ ⟨dst, .call { callee := .builtin .append, args := #[x, y], argTypes := #[29, 29] }, ty, pos, after, guard⟩).run Try.prog w = appTo Try.prog 29 ty w (ρ x) (ρ y) :=
  exec_append _ ty ρ dst x y pos after guard w
abbrev POwn (w : World) (base : Nat) (v : Value) (l : List PointV) : Prop := Own pointC 33 38 w base v l
abbrev PL (w : World) (a : Option Addr) (n c : Nat) (l : List PointV) : Prop := SL pointC 33 w a n c l
/-- 'append' of any points; what is no block of the slice's own stays. -/
theorem app_pk {w : World} {base : Nat} {u : Option Addr} {n0 c0 : Nat} {l : List PointV} {ty : TypeId} (hown : POwn w base (.slice u n0 c0) l) (hbase : base ≤ w.heap.size) (a : Option Addr) (n cap : Nat) (m : List PointV) (hm : PL w a n cap m) (hlen : l.length + m.length ≤ 2000000) :
    ∃ u' n' c' w', appTo Try.prog 29 ty w (.slice u n0 c0) (.slice a n cap) = .ok (.value (.slice u' n' c')) w' ∧ POwn w' base (.slice u' n' c') (l ++ m) ∧ Below base w w' ∧ w.heap.size ≤ w'.heap.size ∧ n' = l.length + m.length ∧ (∀ b, b < w.heap.size → some b ≠ (Value.slice u n0 c0).ownBlock → w'.heap[b]? = w.heap[b]?) := by
  obtain rfl := hm.1
  by_cases hne : m = []
  · subst hne
    have hs := hown.sl'
    refine ⟨u, n0, c0, w, appTo_none Try.underlying29 sizeOf_pt u n0 c0 hs.2.2.1 hs.2.2.2.2.1 a cap, by rw [List.append_nil]; exact hown, Below.refl _ _, Nat.le_refl _, hs.1, fun _ _ _ => rfl⟩
  · obtain ⟨i, hi, hs, hb, hz⟩ := info_pts
    obtain ⟨g, cap', w1, hap, hown', hgr, _⟩ := appTo_own (ty := ty) Try.underlying29 hi hs hb hz pointC_length (by omega) pointC_row (by omega) hown hbase a cap m hm hne hlen
    have hbl := grown_below hgr hown.ownBlock_le hbase
    exact ⟨_, _, _, w1, hap, hown', hbl, hgr.size, rfl, fun b hb hbo => hgr.block b hb hbo⟩
theorem app_kk {w : World} {base : Nat} {u : Option Addr} {n0 c0 : Nat} {l : List Key} {ty : TypeId} (hown : KOwn w base (.slice u n0 c0) l) (hbase : base ≤ w.heap.size) (a : Option Addr) (n cap : Nat) (m : List Key) (hm : SL keyC 32 w a n cap m) (hlen : l.length + m.length ≤ 2000000) :
    ∃ u' n' c' w', appTo Try.prog 33 ty w (.slice u n0 c0) (.slice a n cap) = .ok (.value (.slice u' n' c')) w' ∧ KOwn w' base (.slice u' n' c') (l ++ m) ∧ Below base w w' ∧ w.heap.size ≤ w'.heap.size ∧ n' = l.length + m.length ∧ (∀ b, b < w.heap.size → some b ≠ (Value.slice u n0 c0).ownBlock → w'.heap[b]? = w.heap[b]?) := by
  obtain rfl := hm.1
  by_cases hne : m = []
  · subst hne
    have hs := hown.sl'
    refine ⟨u, n0, c0, w, app_no_keys u n0 c0 hs.2.2.1 hs.2.2.2.2.1 a cap, by rw [List.append_nil]; exact hown, Below.refl _ _, Nat.le_refl _, hs.1, fun _ _ _ => rfl⟩
  · obtain ⟨g, cap', w1, hap, hown', hgr, _⟩ := app_keys (ty := ty) hown hbase a cap m hm hne hlen
    exact ⟨_, _, _, w1, hap, hown', grown_below hgr hown.ownBlock_le hbase, hgr.size, rfl, fun b hb hbo => hgr.block b hb hbo⟩

/-! ### A point of which only the key is written out -/
def buildPt (P : Program) (t : TypeId) (w : World) (u : Value) : Result Next := (do pure (.value (← Instr.build t #[(0, u)])) : Sem Next).run P w
theorem build1_pt (ρ : Operand → Value) (dst : Option Tmp) (x : Operand) (t : TypeId) (pos : String) (after : Array Edge) (guard : Option (Nat × Bool)) (w : World) :
    (execOp ρ ⟨dst, .build 38 #[(0, x)], t, pos, after, guard⟩).run Try.prog w = buildPt Try.prog 38 w (ρ x) := by simp [execOp, buildPt]
theorem list32 {α : Type} (l : List α) (h : l.length = 32) : ∃ b0 b1 b2 b3 b4 b5 b6 b7 b8 b9 b10 b11 b12 b13 b14 b15 b16 b17 b18 b19 b20 b21 b22 b23 b24 b25 b26 b27 b28 b29 b30 b31, l = [b0, b1, b2, b3, b4, b5, b6, b7, b8, b9, b10, b11, b12, b13, b14, b15, b16, b17, b18, b19, b20, b21, b22, b23, b24, b25, b26, b27, b28, b29, b30, b31] := by
  match l, h with
  | [b0, b1, b2, b3, b4, b5, b6, b7, b8, b9, b10, b11, b12, b13, b14, b15, b16, b17, b18, b19, b20, b21, b22, b23, b24, b25, b26, b27, b28, b29, b30, b31], _ => exact ⟨b0, b1, b2, b3, b4, b5, b6, b7, b8, b9, b10, b11, b12, b13, b14, b15, b16, b17, b18, b19, b20, b21, b22, b23, b24, b25, b26, b27, b28, b29, b30, b31, rfl⟩
theorem run_buildPt (k : Key) (w : World) : (Instr.build 38 #[(0, Value.agg (keyC k).toArray)]).run Try.prog w = .ok (.agg (pointC ⟨k, 0⟩).toArray) w := by
  obtain ⟨b0, b1, b2, b3, b4, b5, b6, b7, b8, b9, b10, b11, b12, b13, b14, b15, b16, b17, b18, b19, b20, b21, b22, b23, b24, b25, b26, b27, b28, b29, b30, b31, h⟩ := list32 (keyC k) (keyC_length k)
  unfold pointC
  show (Instr.build 38 #[(0, Value.agg (keyC k).toArray)]).run Try.prog w = .ok (Value.agg (keyC k ++ [Value.int .u32 0]).toArray) w
  rw [h]
  kernel_rfl
@[go_sem] theorem buildPt_key (k : Key) (w : World) : buildPt Try.prog 38 w (.agg (keyC k).toArray) = .ok (.value (.agg (pointC ⟨k, 0⟩).toArray)) w := by
  unfold buildPt
  rw [Sem.run_bind, run_buildPt]
  rfl

/-! ### A transaction's slice stored anew -/
theorem row_setCell {w : World} {b n i : Nat} {cs : List Value} (h : rowOf w b 0 n = some cs) (hp : canPut w b 0 n = true) (hi : i < n) (v : Value) (hv : v.oneCell' = true) : rowOf (w.setCell ⟨b, i, none⟩ v) b 0 n = some (cs.set i v) := by
  obtain ⟨hl, hr⟩ := rowOf_some.1 h
  refine rowOf_some.2 ⟨by rw [List.length_set]; exact hl, fun j u hj => ?_⟩
  rw [Nat.zero_add]
  by_cases e : j = i
  · subst e
    rw [List.getElem?_set_self (by omega)] at hj
    injection hj with hj
    subst hj
    have := World.rangeAt_setCells_same w b j [v] (by
      intro t ht
      have ht0 : t = 0 := by simp at ht; omega
      subst ht0
      have := canPut_there.1 hp j hi
      rwa [Nat.zero_add] at this) 0 v rfl
    rwa [Nat.add_zero] at this
  · rw [List.getElem?_set_ne (fun h => e h.symm)] at hj
    have hju := hr j u hj
    rw [Nat.zero_add] at hju
    rw [World.cell?_setCell_other w _ _ _ (by intro h; injection h with h1 h2; exact e h2.symm)]
    exact hju
theorem txC_notes (t : TxV) (s : Sl) : (txC t).set 36 (.slice s.a s.len s.cap) = txC { t with notes := s } := by
  obtain ⟨b0, b1, b2, b3, b4, b5, b6, b7, b8, b9, b10, b11, b12, b13, b14, b15, b16, b17, b18, b19, b20, b21, b22, b23, b24, b25, b26, b27, b28, b29, b30, b31, h⟩ := list32 (keyC t.anchor) (keyC_length _)
  unfold txC
  simp only [h]
  rfl
theorem txC_ins (t : TxV) (s : Sl) : (txC t).set 1 (.slice s.a s.len s.cap) = txC { t with ins := s } := by
  unfold txC
  rfl

end Go.Proofs.Ytoojmcijldlinaa
