/- Stores into a slice of the call's own; a slice of its own cut; clear. No program. -/
import Derived.Test.YtahkiabpjfcfdaaMem5
import Derived.Test.YtahkiabpjfcfdaaBox
namespace Go.Proofs.Ytahkiabpjfcfdaa
set_option maxRecDepth 100000
open Go.RowKit
set_option linter.unusedVariables false

theorem setCells_size' (b : Nat) : ∀ (cs : List Value) (o : Nat) (w : World), (w.setCells b o cs).heap.size = w.heap.size
  | [], o, w => rfl
  | v :: cs, o, w => by
    show ((w.setCell ⟨b, o, none⟩ v).setCells b (o + 1) cs).heap.size = _
    rw [setCells_size' b cs]
    simp [World.setCell]
theorem below_setCells' {B b : Nat} (hB : B ≤ b) : ∀ (cs : List Value) (o : Nat) (W w : World), Below B W w → Below B W (w.setCells b o cs)
  | [], o, W, w, h => h
  | v :: cs, o, W, w, h => below_setCells' hB cs (o + 1) W _ (Below.setCell h hB v)

section
variable {α : Type} {f : α → List Value} {n : Nat} {e : TypeId} {w w' : World} {base : Nat} {l : List α}
theorem Own.block_le {u : Option Addr} {m c : Nat} (h : Own f n e w base (.slice u m c) l) : ∀ x, u = some x → base ≤ x.block := by
  intro x hx
  rcases h.form with ⟨h1, _⟩ | ⟨g, cap, h1, h2, _⟩
  · injection h1 with h1; rw [h1] at hx; cases hx
  · injection h1 with h1; rw [h1] at hx; injection hx with hx; subst hx; exact h2
theorem SL.one (hf : ∀ x, (f x).length = n) (x : α) (t : TypeId) (w : World) : SL f n (w.alloc (.cells (f x).toArray t)) (some ⟨w.heap.size, 0, none⟩) 1 1 [x] := by
  have := SL.new hf w [x] t w.heap.size rfl (by unfold maxLen; simp)
  rw [rows_one] at this
  exact this
theorem SL.nil (f : α → List Value) (n : Nat) (w : World) : SL f n w none 0 0 [] := ⟨rfl, Nat.le_refl _, by unfold maxLen; omega, fun _ => rfl, fun h => absurd rfl h⟩
theorem SL.recap {a : Option Addr} {len cap : Nat} (h : SL f n w a len cap l) (cap' : Nat) (h1 : len ≤ cap') (h2 : cap' ≤ maxLen) (h3 : a = none → cap' = 0) : SL f n w a len cap' l := ⟨h.1, h1, h2, h3, h.2.2.2.2⟩
theorem SL.cut {a : Option Addr} {len cap : Nat} (hf : ∀ x, (f x).length = n) (h : SL f n w a len cap l) (i : Nat) (hi : i < len) (cap' : Nat) (hc : len - i ≤ cap') (hc' : cap' ≤ maxLen) : SL f n w (a.map fun x => x.add (i * n)) (len - i) cap' (l.drop i) := by
  obtain rfl := h.1
  have hn : a = none → cap' = 0 := fun e => by have := h.2.2.2.1 e; have := h.2.1; omega
  have := SL.drop hf h i (by omega) cap' hc hc' hn
  simp only [show ¬ (l.length = i) from by omega, if_false] at this
  exact this
theorem Own.mono {base' : Nat} {v : Value} (h : Own f n e w base v l) (hb : base' ≤ base) : Own f n e w base' v l := by
  obtain ⟨h1, h2⟩ := h
  refine ⟨h1, ?_⟩
  rcases h2 with h2 | ⟨g, cap, cur, hv, hg, r⟩
  · exact .inl h2
  · exact .inr ⟨g, cap, cur, hv, by omega, r⟩
/-- A slice of the call's own, cut. -/
theorem Own.cut {u : Option Addr} {m c : Nat} (hf : ∀ x, (f x).length = n) (h : Own f n e w base (.slice u m c) l) (i : Nat) (hi : i ≤ l.length) : Own f n e w base (.slice u i c) (l.take i) := by
  obtain ⟨h1, h2⟩ := h
  have hl : (l.take i).length = i := by rw [List.length_take]; omega
  refine ⟨by rw [rows_length hf], ?_⟩
  rcases h2 with ⟨h2, h3⟩ | ⟨g, cap, cur, hv, hg, hh, h3, h4, h5, h6⟩
  · injection h2 with a1 a2 a3
    left
    have : i = 0 := by omega
    subst this
    rw [a1, a3]
    exact ⟨rfl, hl⟩
  · injection hv with a1 a2 a3
    subst a3
    right
    refine ⟨g, c, cur, by rw [a1, hl], hg, hh, by omega, h4, h5, ?_⟩
    rw [hl, ← rows_take hf l i hi, ← h6, List.take_take, Nat.min_eq_left (Nat.mul_le_mul_right n hi)]
theorem heap_setCells_cut (hf : ∀ x, (f x).length = n) (xs : List α) {w : World} {g : Nat} {cur : Array Value} {t : TypeId} (hh : w.heap[g]? = some (.cells cur t (0, 0))) (o : Nat) (ho : o + xs.length * n ≤ cur.size) :
    (w.setCells g o (rows f xs)).heap[g]? = some (.cells (cur.toList.take o ++ rows f xs ++ cur.toList.drop (o + xs.length * n)).toArray t (0, 0)) := by
  have hlt : g < w.heap.size := (Array.getElem?_eq_some_iff.1 hh).1
  have hsplit : cur = (cur.toList.take o ++ (cur.toList.drop o).take (xs.length * n) ++ cur.toList.drop (o + xs.length * n)).toArray := by
    apply Array.ext'
    simp only [List.append_assoc]
    rw [← List.drop_drop, List.take_append_drop, List.take_append_drop]
  have hlen : (cur.toList.take o).length = o := by rw [List.length_take, Array.length_toList]; omega
  have := setCells_append g (rows f xs) w (cur.toList.take o) ((cur.toList.drop o).take (xs.length * n)) (cur.toList.drop (o + xs.length * n)) t (0, 0) (by have hs : cur.toList.length = cur.size := Array.length_toList; rw [List.length_take, List.length_drop, rows_length hf]; omega) (by rw [← hsplit]; exact hh)
  rw [hlen] at this
  rw [this]
  simp [hlt]
/-- An element stored over one of the slice's. -/
theorem Own.put {u : Option Addr} {m c : Nat} (hf : ∀ x, (f x).length = n) (h : Own f n e w base (.slice u m c) l) (i : Nat) (hi : i < l.length) (x : α) :
    ∃ g, u = some ⟨g, 0, none⟩ ∧ base ≤ g ∧ g < w.heap.size ∧ canPut w g (i * n) n = true ∧ Own f n e (w.setCells g (i * n) (f x)) base (.slice u m c) (l.set i x) ∧ Below base w (w.setCells g (i * n) (f x)) := by
  obtain ⟨h1, h2⟩ := h
  rcases h2 with ⟨h2, h3⟩ | ⟨g, cap, cur, hv, hg, hh, h3, h4, h5, h6⟩
  · omega
  · injection hv with a1 a2 a3
    subst a3
    have hlt : g < w.heap.size := (Array.getElem?_eq_some_iff.1 hh).1
    have hin : (i + 1) * n ≤ c * n := Nat.mul_le_mul_right n (by omega)
    have hin' : i * n + n ≤ cur.size := by rw [h5]; rw [Nat.succ_mul] at hin; exact hin
    refine ⟨g, a1, hg, hlt, canPut_block hh _ _ hin', ⟨by rw [rows_length hf, List.length_set], .inr ⟨g, c, (cur.toList.take (i * n) ++ rows f [x] ++ cur.toList.drop (i * n + 1 * n)).toArray, by rw [a1, a2, List.length_set], hg, ?_, by rw [List.length_set]; exact h3, h4, ?_, ?_⟩⟩, below_setCells' hg _ _ _ _ (Below.refl _ _)⟩
    · have := heap_setCells_cut hf [x] hh (i * n) (by simpa using hin')
      rw [rows_one] at this ⊢
      exact this
    · simp only [List.size_toArray, List.length_append, List.length_take, List.length_drop, Array.length_toList, rows_one, hf]
      omega
    · simp only [List.length_set, rows_one]
      have e1 : l.set i x = l.take i ++ x :: l.drop (i + 1) := by rw [List.set_eq_take_append_cons_drop, if_pos hi]
      rw [e1, rows_append, rows_cons, ← rows_take hf l i (by omega), ← rows_drop hf l (i + 1) (by omega), ← h6, List.take_take, Nat.min_eq_left (Nat.mul_le_mul_right n (by omega)), List.drop_take]
      have hA : (cur.toList.take (i * n)).length = i * n := by rw [List.length_take, Array.length_toList]; omega
      have hN : l.length * n = i * n + (n + (l.length * n - (i + 1) * n)) := by
        have : (i + 1) * n ≤ l.length * n := Nat.mul_le_mul_right n (by omega)
        rw [Nat.succ_mul] at this ⊢
        omega
      rw [List.append_assoc, List.take_append, hA, List.take_of_length_le (l := cur.toList.take (i * n)) (by rw [hA, hN]; omega), hN, Nat.add_sub_cancel_left, List.take_append, hf, List.take_of_length_le (l := f x) (by rw [hf]; omega), Nat.add_sub_cancel_left, Nat.one_mul, Nat.succ_mul]
      congr 3
      omega
/-- Elements stored behind the first i of the slice's: the first i stay. -/
theorem Own.wipe {u : Option Addr} {m c : Nat} (hf : ∀ x, (f x).length = n) (h : Own f n e w base (.slice u m c) l) (i : Nat) (hi : i ≤ l.length) (xs : List α) (hx : xs.length = l.length - i) :
    (u = none ∧ l = []) ∨ ∃ g, u = some ⟨g, 0, none⟩ ∧ base ≤ g ∧ g < w.heap.size ∧ canPut w g (i * n) (xs.length * n) = true ∧ Own f n e (w.setCells g (i * n) (rows f xs)) base (.slice u i c) (l.take i) ∧ Below base w (w.setCells g (i * n) (rows f xs)) := by
  have h0 := h
  obtain ⟨h1, h2⟩ := h
  rcases h2 with ⟨h2, h3⟩ | ⟨g, cap, cur, hv, hg, hh, h3, h4, h5, h6⟩
  · injection h2 with a1 a2 a3
    exact .inl ⟨a1, List.length_eq_zero_iff.1 h3⟩
  · injection hv with a1 a2 a3
    subst a3
    have hlt : g < w.heap.size := (Array.getElem?_eq_some_iff.1 hh).1
    have hin : (i + xs.length) * n ≤ c * n := Nat.mul_le_mul_right n (by omega)
    have hin' : i * n + xs.length * n ≤ cur.size := by rw [h5, ← Nat.add_mul]; exact hin
    have hl : (l.take i).length = i := by rw [List.length_take]; omega
    refine .inr ⟨g, a1, hg, hlt, canPut_block hh _ _ hin', ⟨by rw [rows_length hf], .inr ⟨g, c, _, by rw [a1, hl], hg, heap_setCells_cut hf xs hh (i * n) hin', by omega, h4, ?_, ?_⟩⟩, below_setCells' hg _ _ _ _ (Below.refl _ _)⟩
    · simp only [List.size_toArray, List.length_append, List.length_take, List.length_drop, Array.length_toList, rows_length hf]
      omega
    · have hA : (cur.toList.take (i * n)).length = i * n := by rw [List.length_take, Array.length_toList]; omega
      rw [hl, ← rows_take hf l i hi, ← h6, List.take_take, Nat.min_eq_left (Nat.mul_le_mul_right n hi)]
      simp only [List.append_assoc]
      rw [List.take_append, hA, Nat.sub_self, List.take_zero, List.append_nil, List.take_of_length_le (l := cur.toList.take (i * n)) (by rw [hA]; exact Nat.le_refl _)]
end

/-- What clear comes to (a name for the run). -/
def clearTo (P : Program) (t ty : TypeId) (w : World) (u : Value) : Result Next := (do pure (.value (← Builtin.clear_ #[t] ty #[u])) : Sem Next).run P w
theorem exec_clear {P : Program} (t ty : TypeId) (ρ : Operand → Value) (dst : Option Tmp) (x : Operand) (pos : String) (after : Array Edge) (guard : Option (Nat × Bool)) (w : World) :
    (execOp ρ ⟨dst, .call { callee := .builtin .clear, args := #[x], argTypes := #[t] }, ty, pos, after, guard⟩).run P w = clearTo P t ty w (ρ x) := by
  simp [execOp, resolve, invoke, builtin, clearTo]
theorem zeroCells_rows {α : Type} (f : α → List Value) (z : α) (k : Nat) (n : Nat) (hf : (f z).length = n) : (Builtin.zeroCells (f z).toArray k).toList = rows f (List.replicate k z) := by
  have h := made_rows f n z hf k
  rw [← h]
  simp [Builtin.zeroCells, hf]
theorem clearTo_rows {α : Type} {P : Program} {t e ty : TypeId} {f : α → List Value} {z : α} {n : Nat} (hu : P.underlying t = some (.slice e)) (hz : ∀ w, (zeroValue e).run P w = .ok (.agg (f z).toArray) w) (hf : ∀ x, (f x).length = n) (h1 : ∀ x, isRow n (f x) = true)
    {w : World} {b o k c : Nat} (hp : canPut w b o (k * n) = true) (hk : 0 < k) : clearTo P t ty w (.slice (some ⟨b, o, none⟩) k c) = .ok (.value (.tuple #[])) (w.setCells b o (rows f (List.replicate k z))) := by
  have hr := rows_row h1 (List.replicate k z)
  rw [List.length_replicate] at hr
  simp only [isRow, Bool.and_eq_true, decide_eq_true_eq] at hr
  have ht := canPut_there.1 hp
  have hst := run_storeCells_cells (P := P) b o (rows f (List.replicate k z)) 0 w (fun j hj => by simpa using (ht j (by omega)).1) (fun j hj => by simpa using (ht j (by omega)).2) (fun v hv => (List.all_eq_true.1 hr.2) v hv)
  simp only [Nat.add_zero] at hst
  have hzc := zeroCells_rows f z k n (hf z)
  obtain ⟨m, rfl⟩ : ∃ m, k = m + 1 := ⟨k - 1, by omega⟩
  simp only [clearTo, Sem.run_bind]
  simp [Builtin.clear_, run_underlying hu, hz, Value.cells, hzc, hst]

end Go.Proofs.Ytahkiabpjfcfdaa
