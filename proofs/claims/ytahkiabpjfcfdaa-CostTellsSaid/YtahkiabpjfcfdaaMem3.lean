/- Rows of rows: a list of elements that lie one behind the other; make, copy, store of one. No program. -/
import Derived.Test.YtahkiabpjfcfdaaMem2
namespace Go.Proofs.Ytahkiabpjfcfdaa
set_option maxRecDepth 100000
open Go.RowKit

section
variable {α : Type}
@[irreducible] def rows (f : α → List Value) (l : List α) : List Value := l.flatMap f
theorem rows_nil (f : α → List Value) : rows f [] = [] := by unfold rows; rfl
theorem rows_cons (f : α → List Value) (x : α) (l : List α) : rows f (x :: l) = f x ++ rows f l := by unfold rows; rfl
theorem rows_append (f : α → List Value) (l m : List α) : rows f (l ++ m) = rows f l ++ rows f m := by unfold rows; simp
theorem rows_one (f : α → List Value) (x : α) : rows f [x] = f x := by rw [rows_cons, rows_nil, List.append_nil]
theorem rows_length {f : α → List Value} {n : Nat} (hf : ∀ x, (f x).length = n) (l : List α) : (rows f l).length = l.length * n := by
  induction l with
  | nil => rw [rows_nil]; simp
  | cons x l ih => rw [rows_cons, List.length_append, hf, ih, List.length_cons, Nat.add_mul]; omega
theorem rows_take {f : α → List Value} {n : Nat} (hf : ∀ x, (f x).length = n) (l : List α) (i : Nat) (hi : i ≤ l.length) : (rows f l).take (i * n) = rows f (l.take i) := by
  conv => lhs; rw [← List.take_append_drop i l, rows_append]
  rw [List.take_append_of_le_length (by rw [rows_length hf, List.length_take, Nat.min_eq_left hi]; exact Nat.le_refl _)]
  rw [List.take_of_length_le (by rw [rows_length hf, List.length_take, Nat.min_eq_left hi]; exact Nat.le_refl _)]
theorem rows_drop {f : α → List Value} {n : Nat} (hf : ∀ x, (f x).length = n) (l : List α) (i : Nat) (hi : i ≤ l.length) : (rows f l).drop (i * n) = rows f (l.drop i) := by
  conv => lhs; rw [← List.take_append_drop i l, rows_append]
  rw [List.drop_append_of_le_length (by rw [rows_length hf, List.length_take, Nat.min_eq_left hi]; exact Nat.le_refl _)]
  rw [List.drop_of_length_le (by rw [rows_length hf, List.length_take, Nat.min_eq_left hi]; exact Nat.le_refl _), List.nil_append]
theorem rows_elem {f : α → List Value} {n : Nat} (hf : ∀ x, (f x).length = n) {l : List α} {i : Nat} {x : α} (h : l[i]? = some x) : ((rows f l).drop (i * n)).take n = f x := by
  have hi : i < l.length := (List.getElem?_eq_some_iff.1 h).1
  have hx : l[i] = x := (List.getElem?_eq_some_iff.1 h).2
  rw [rows_drop hf l i (by omega), List.drop_eq_getElem_cons hi, hx, rows_cons, List.take_append_of_le_length (by rw [hf]; exact Nat.le_refl _), List.take_of_length_le (by rw [hf]; exact Nat.le_refl _)]
theorem rows_row {f : α → List Value} {n : Nat} (hf : ∀ x, isRow n (f x) = true) (l : List α) : isRow (l.length * n) (rows f l) = true := by
  induction l with
  | nil => rw [rows_nil]; simp [isRow]
  | cons x l ih =>
    have h1 := hf x
    simp only [isRow, Bool.and_eq_true, decide_eq_true_eq] at h1 ih ⊢
    rw [rows_cons, List.length_append, List.all_append, h1.1, h1.2, ih.1, ih.2, List.length_cons, Nat.add_mul]
    exact ⟨by omega, rfl⟩
end

/-! ### Parts of a row -/
theorem rowOf_sub {w : World} {b o N : Nat} {cs : List Value} (h : rowOf w b o N = some cs) (i n : Nat) (hin : i + n ≤ N) : rowOf w b (o + i) n = some ((cs.drop i).take n) := by
  obtain ⟨h1, h2⟩ := rowOf_some.1 h
  refine rowOf_some.2 ⟨by rw [List.length_take, List.length_drop]; omega, fun j v hv => ?_⟩
  have hj : j < n := by
    have := (List.getElem?_eq_some_iff.1 hv).1
    rw [List.length_take, List.length_drop] at this; omega
  rw [List.getElem?_take, if_pos hj, List.getElem?_drop] at hv
  have := h2 (i + j) v hv
  rwa [← Nat.add_assoc] at this
theorem rowOf_join {w : World} {b o m n : Nat} {cs ds : List Value} (h : rowOf w b o m = some cs) (h' : rowOf w b (o + m) n = some ds) : rowOf w b o (m + n) = some (cs ++ ds) := by
  obtain ⟨h1, h2⟩ := rowOf_some.1 h
  obtain ⟨h3, h4⟩ := rowOf_some.1 h'
  refine rowOf_some.2 ⟨by rw [List.length_append]; omega, fun j v hv => ?_⟩
  by_cases hj : j < cs.length
  · rw [List.getElem?_append_left hj] at hv; exact h2 j v hv
  · rw [List.getElem?_append_right (by omega)] at hv
    have := h4 (j - cs.length) v hv
    rwa [show o + m + (j - cs.length) = o + j from by omega] at this

/-- A slice of elements: where it lies and what it holds. -/
def SL {α : Type} (f : α → List Value) (n : Nat) (w : World) (a : Option Addr) (len cap : Nat) (l : List α) : Prop :=
  len = l.length ∧ len ≤ cap ∧ cap ≤ maxLen ∧ (a = none → cap = 0) ∧ (l ≠ [] → ∃ b o, a = some ⟨b, o, none⟩ ∧ b < w.heap.size ∧ rowOf w b o (l.length * n) = some (rows f l))

section
variable {α : Type} {f : α → List Value} {n : Nat} {w w' : World} {a : Option Addr} {len cap : Nat} {l : List α}
theorem SL.congr (h : SL f n w a len cap l) (hb : ∀ b, b < w.heap.size → w'.heap[b]? = w.heap[b]?) (hs : w.heap.size ≤ w'.heap.size) : SL f n w' a len cap l := by
  obtain ⟨h1, h2, h3, h4, h5⟩ := h
  refine ⟨h1, h2, h3, h4, fun hne => ?_⟩
  obtain ⟨b, o, e, hb', hr⟩ := h5 hne
  exact ⟨b, o, e, by omega, by rw [rowOf_congr (hb b hb')]; exact hr⟩
theorem SL.below (h : SL f n w a len cap l) (hb : Below w.heap.size w w') : SL f n w' a len cap l := h.congr hb.block hb.size
/-- .. of a slice of an elder world. -/
theorem SL.elem (hf : ∀ x, (f x).length = n) (h : SL f n w a len cap l) {i : Nat} {x : α} (hx : l[i]? = some x) : ∃ b o, a = some ⟨b, o, none⟩ ∧ b < w.heap.size ∧ rowOf w b (o + i * n) n = some (f x) := by
  have hi : i < l.length := (List.getElem?_eq_some_iff.1 hx).1
  obtain ⟨b, o, e, hb, hr⟩ := h.2.2.2.2 (by intro h0; rw [h0] at hi; simp at hi)
  refine ⟨b, o, e, hb, ?_⟩
  have := rowOf_sub hr (i * n) n (by have := Nat.mul_le_mul_right n hi; rw [Nat.succ_mul] at this; exact this)
  rw [rows_elem hf hx] at this
  exact this
theorem SL.drop (hf : ∀ x, (f x).length = n) (h : SL f n w a len cap l) (i : Nat) (hi : i ≤ l.length) (cap' : Nat) (hc : l.length - i ≤ cap') (hc' : cap' ≤ maxLen) (hn : a = none → cap' = 0) :
    SL f n w (a.map fun x => if l.length = i then x else x.add (i * n)) (l.length - i) cap' (l.drop i) := by
  refine ⟨by simp, hc, hc', fun hnone => hn (by simpa using hnone), fun hne => ?_⟩
  have hlt : i < l.length := by
    rcases Nat.lt_or_ge i l.length with h | h
    · exact h
    · exact absurd (List.drop_of_length_le h) hne
  obtain ⟨b, o, e, hb, hr⟩ := h.2.2.2.2 (by intro h0; rw [h0] at hlt; simp at hlt)
  refine ⟨b, o + i * n, ?_, hb, ?_⟩
  · rw [e]; simp only [Option.map_some]; rw [if_neg (by omega), Addr.add_mid]
  · have := rowOf_sub hr (i * n) ((l.drop i).length * n) (by rw [List.length_drop, ← Nat.add_mul]; exact Nat.mul_le_mul_right n (by omega))
    rw [rows_drop hf l i (by omega)] at this
    rw [List.take_of_length_le (by rw [rows_length hf]; exact Nat.le_refl _)] at this
    exact this
theorem SL.take (hf : ∀ x, (f x).length = n) (h : SL f n w a len cap l) (i : Nat) (hi : i ≤ l.length) : SL f n w a i cap (l.take i) := by
  obtain ⟨h1, h2, h3, h4, h5⟩ := h
  refine ⟨by rw [List.length_take]; omega, by omega, h3, h4, fun hne => ?_⟩
  have hlt : 0 < i := by
    rcases Nat.eq_zero_or_pos i with h | h
    · subst h; simp at hne
    · exact h
  obtain ⟨b, o, e, hb, hr⟩ := h5 (by intro h0; rw [h0] at hi; simp at hi; omega)
  refine ⟨b, o, e, hb, ?_⟩
  have := rowOf_sub hr 0 ((l.take i).length * n) (by rw [Nat.zero_add, List.length_take]; exact Nat.mul_le_mul_right n (by omega))
  rw [List.drop_zero, List.length_take, Nat.min_eq_left hi, rows_take hf l i hi, Nat.add_zero] at this
  rw [List.length_take, Nat.min_eq_left hi]
  exact this
/-- A block that has been laid whole. -/
theorem SL.block {b : Nat} {t : TypeId} (hf : ∀ x, (f x).length = n) (hb : w.heap[b]? = some (.cells (rows f l).toArray t (0, 0))) (hm : l.length ≤ maxLen) : SL f n w (some ⟨b, 0, none⟩) l.length l.length l := by
  refine ⟨rfl, Nat.le_refl _, hm, (fun h => nomatch h), fun _ => ⟨b, 0, rfl, (Array.getElem?_eq_some_iff.1 hb).1, ?_⟩⟩
  rw [rowOf_block hb 0 (l.length * n) (by simp [rows_length hf])]
  rw [show (l.length * n) = (rows f l).length from (rows_length hf l).symm]
  simp
end

end Go.Proofs.Ytahkiabpjfcfdaa
