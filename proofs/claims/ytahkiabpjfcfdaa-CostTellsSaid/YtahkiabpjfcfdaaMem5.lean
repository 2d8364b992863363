/- append onto a slice of rows of the call's own. No program. -/
import Derived.Test.YtahkiabpjfcfdaaMem4
import Derived.Deep.AppendLies
namespace Go.Proofs.Ytahkiabpjfcfdaa
set_option maxRecDepth 100000
open Go.RowKit

/-- What an append comes to (a name for the run). -/
def appTo (P : Program) (t ty : TypeId) (w : World) (u v : Value) : Result Next := (do pure (.value (← Builtin.append_ #[t, t] ty #[u, v])) : Sem Next).run P w
theorem exec_append {P : Program} (t ty : TypeId) (ρ : Operand → Value) (dst : Option Tmp) (x y : Operand) (pos : String) (after : Array Edge) (guard : Option (Nat × Bool)) (w : World) :
    (execOp ρ ⟨dst, .call { callee := .builtin .append, args := #[x, y], argTypes := #[t, t] }, ty, pos, after, guard⟩).run P w = appTo P t ty w (ρ x) (ρ y) := by
  simp [execOp, resolve, invoke, builtin, appTo]

/-- A slice of the call's own, from block 'base' on, that holds the elements l. -/
def Own {α : Type} (f : α → List Value) (n : Nat) (e : TypeId) (w : World) (base : Nat) (v : Value) (l : List α) : Prop := w.ownsRow base e n v l.length (rows f l)

section
variable {α : Type} {f : α → List Value} {n : Nat} {e : TypeId} {w w' : World} {base : Nat} {v : Value} {l : List α}
theorem Own.nil (f : α → List Value) (n : Nat) (e : TypeId) (w : World) (base : Nat) : Own f n e w base (.slice none 0 0) [] := by
  refine ⟨by rw [rows_nil]; simp, .inl ⟨rfl, rfl⟩⟩
theorem Own.empty (f : α → List Value) (n : Nat) (e : TypeId) (w : World) (base b : Nat) (hb : b = w.heap.size) (h : base ≤ b) : Own f n e (w.alloc (.cells #[] e)) base (.slice (some ⟨b, 0, none⟩) 0 0) [] := by
  subst hb
  refine ⟨by rw [rows_nil]; simp, .inr ⟨w.heap.size, 0, #[], rfl, h, heap_alloc_new w _, Nat.le_refl _, by unfold maxLen; omega, by simp, by rw [rows_nil]; simp⟩⟩
theorem Own.form (h : Own f n e w base v l) : (v = .slice none 0 0 ∧ l = []) ∨ ∃ g cap, v = .slice (some ⟨g, 0, none⟩) l.length cap ∧ base ≤ g ∧ g < w.heap.size := by
  rcases h.2 with ⟨h1, h2⟩ | ⟨g, cap, cur, hv, hb, hg, _⟩
  · exact .inl ⟨h1, List.length_eq_zero_iff.1 h2⟩
  · exact .inr ⟨g, cap, hv, hb, (Array.getElem?_eq_some_iff.1 hg).1⟩
theorem Own.sl (h : Own f n e w base v l) : ∃ a cap, v = .slice a l.length cap ∧ SL f n w a l.length cap l := by
  rcases h.2 with ⟨h1, h2⟩ | ⟨g, cap, cur, hv, hb, hg, h1, h2, h3, h4⟩
  · have hl := List.length_eq_zero_iff.1 h2
    subst hl
    exact ⟨none, 0, h1, rfl, Nat.le_refl _, by unfold maxLen; omega, fun _ => rfl, fun h => absurd rfl h⟩
  · refine ⟨some ⟨g, 0, none⟩, cap, hv, rfl, h1, h2, (fun h => nomatch h), fun _ => ⟨g, 0, rfl, (Array.getElem?_eq_some_iff.1 hg).1, ?_⟩⟩
    have := rowOf_block hg 0 (l.length * n) (by rw [h3, Nat.zero_add]; exact Nat.mul_le_mul_right n h1)
    rw [this]
    congr 1
    rw [← h4]
    simp
theorem Own.sl' {a : Option Addr} {len cap : Nat} (h : Own f n e w base (.slice a len cap) l) : len = l.length ∧ SL f n w a len cap l := by
  obtain ⟨a', cap', he, hs⟩ := h.sl
  injection he with h1 h2 h3
  subst h1 h2 h3
  exact ⟨rfl, hs⟩
theorem Own.congr (h : Own f n e w base v l) (hb : ∀ b, base ≤ b → b < w.heap.size → w'.heap[b]? = w.heap[b]?) : Own f n e w' base v l := by
  obtain ⟨h1, h2⟩ := h
  refine ⟨h1, ?_⟩
  rcases h2 with h2 | ⟨g, cap, cur, hv, hg, hh, r⟩
  · exact .inl h2
  · exact .inr ⟨g, cap, cur, hv, hg, by rw [hb g hg (Array.getElem?_eq_some_iff.1 hh).1]; exact hh, r⟩
theorem Own.below (h : Own f n e w base v l) (hb : Below w.heap.size w w') : Own f n e w' base v l := h.congr fun b _ hlt => hb.block b hlt

/-- An append of elements that lie somewhere, one at least. -/
theorem appTo_own {P : Program} {t ty : TypeId} {i : TypeInfo} {z : α} {bytes : Nat} (hu : P.underlying t = some (.slice e)) (hi : P.info? e = some i) (hs : i.size = n) (hby : i.bytes = bytes) (hz : i.zero = some (.agg (f z).toArray)) (hf : ∀ x, (f x).length = n) (h0 : 0 < n)
    (h1 : ∀ x, isRow n (f x) = true) (kb : bytes ≤ 1000) (hown : Own f n e w base v l) (hbase : base ≤ w.heap.size) (a : Option Addr) (cap : Nat) (m : List α) (hm : SL f n w a m.length cap m) (hne : m ≠ []) (hlen : l.length + m.length ≤ 2000000) :
    ∃ g cap' w', appTo P t ty w v (.slice a m.length cap) = .ok (.value (.slice (some ⟨g, 0, none⟩) (l.length + m.length) cap')) w' ∧ Own f n e w' base (.slice (some ⟨g, 0, none⟩) (l.length + m.length) cap') (l ++ m) ∧ w.grownBy w' v.ownBlock ∧ (v.ownBlock = some g ∨ g = w.heap.size) := by
  obtain ⟨b, o, ha, _, hr⟩ := hm.2.2.2.2 hne
  subst ha
  have hpos : 0 < m.length := List.length_pos_iff.2 hne
  have hrow := rows_row h1 m
  simp only [isRow, Bool.and_eq_true, decide_eq_true_eq] at hrow
  have hb2 : (l.length + m.length) * bytes ≤ 2000000 * 1000 := Nat.mul_le_mul hlen kb
  obtain ⟨g, cap', w', hrun, h2, h3, h4, _⟩ := run_append_lies (P := P) w t ty base e i (.agg (f z).toArray) n bytes hu hi hz hs hby (by simp [Value.cells, hf]) h0 v l.length (rows f l) hown
    ⟨b, o, none⟩ m.length cap (rows f m) hrow.1 (fun j u hj => by rw [Addr.add_mid]; exact (rowOf_some.1 hr).2 j u hj) (fun u hu => (List.all_eq_true.1 hrow.2) u hu)
    hpos (by unfold maxLen; omega) (by omega) hbase w.heap.size rfl
  refine ⟨g, cap', w', ?_, ?_, h3, h4⟩
  · simp only [appTo, Sem.run_bind, hrun]; rfl
  · unfold Own; rw [List.length_append, rows_append]; exact h2

/-- An append of nothing. -/
theorem appTo_none {P : Program} {t ty : TypeId} (hu : P.underlying t = some (.slice e)) (hs : ∀ w, (sizeOf e).run P w = .ok n w) (u : Option Addr) (len cap : Nat) (hc : len ≤ cap) (hnone : u = none → cap = 0) (a : Option Addr) (c : Nat) :
    appTo P t ty w (.slice u len cap) (.slice a 0 c) = .ok (.value (.slice u len cap)) w := by
  have hk : (underlying t).run P w = .ok (.slice e) w := run_underlying hu w
  have hfc : (Builtin.firstCells n 0 (.slice a 0 c)).run P w = .ok #[] w := by
    cases a with
    | none => rfl
    | some a => simp [Builtin.firstCells, loadCells, loadCellsFrom]
  simp only [appTo, Sem.run_bind, Builtin.append_]
  cases u with
  | none => simp [hk, hs, Builtin.lenOf, hfc, hc]
  | some u => simp [hk, hs, Builtin.lenOf, hfc, hc, storeCells]
end

theorem grown_below {B : Nat} {w w' : World} {row : Option Nat} (hg : w.grownBy w' row) (hr : ∀ k, row = some k → B ≤ k) (hB : B ≤ w.heap.size) : Below B w w' := (Below.refl B w).grown hg hB hr
theorem Own.ownBlock_le {α : Type} {f : α → List Value} {n : Nat} {e : TypeId} {w : World} {base : Nat} {v : Value} {l : List α} (h : Own f n e w base v l) : ∀ k, v.ownBlock = some k → base ≤ k := by
  intro k hk
  rcases h.form with ⟨rfl, _⟩ | ⟨g, cap, rfl, hg, _⟩
  · cases hk
  · simp only [Value.ownBlock, Option.some.injEq] at hk; omega

end Go.Proofs.Ytahkiabpjfcfdaa
