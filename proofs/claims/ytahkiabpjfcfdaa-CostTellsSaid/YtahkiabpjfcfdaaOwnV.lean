/- append onto a slice of one-cell elements of the call's own. No program. -/
import Derived.Test.YtahkiabpjfcfdaaMem5
namespace Go.Proofs.Ytahkiabpjfcfdaa
set_option maxRecDepth 100000
open Go.RowKit
set_option linter.unusedVariables false

/-- A slice of the call's own, from block 'base' on, whose cells are vs. -/
def OwnV (w : World) (base : Nat) (e : TypeId) (v : Value) (vs : List Value) : Prop := w.ownsRow base e 1 v vs.length vs
theorem OwnV.empty (w : World) (base : Nat) (e : TypeId) (b : Nat) (hb : b = w.heap.size) (h : base ≤ b) : OwnV (w.alloc (.cells #[] e)) base e (.slice (some ⟨b, 0, none⟩) 0 0) [] := by
  subst hb
  exact ⟨by simp, .inr ⟨w.heap.size, 0, #[], rfl, h, heap_alloc_new w _, Nat.le_refl _, by unfold maxLen; omega, by simp, by simp⟩⟩
theorem OwnV.new (w : World) (base : Nat) (e : TypeId) (b : Nat) (vs : List Value) (hb : b = w.heap.size) (h : base ≤ b) (hm : vs.length ≤ maxLen) : OwnV (w.alloc (.cells vs.toArray e)) base e (.slice (some ⟨b, 0, none⟩) vs.length vs.length) vs := by
  subst hb
  exact ⟨by simp, .inr ⟨w.heap.size, vs.length, vs.toArray, rfl, h, heap_alloc_new w _, Nat.le_refl _, hm, by simp, by simp⟩⟩
theorem OwnV.congr {w w' : World} {base : Nat} {e : TypeId} {v : Value} {vs : List Value} (h : OwnV w base e v vs) (hb : ∀ b, base ≤ b → b < w.heap.size → w'.heap[b]? = w.heap[b]?) : OwnV w' base e v vs := by
  obtain ⟨h1, h2⟩ := h
  refine ⟨h1, ?_⟩
  rcases h2 with h2 | ⟨g, cap, cur, hv, hg, hh, r⟩
  · exact .inl h2
  · exact .inr ⟨g, cap, cur, hv, hg, by rw [hb g hg (Array.getElem?_eq_some_iff.1 hh).1]; exact hh, r⟩
theorem OwnV.below {w w' : World} {base : Nat} {e : TypeId} {v : Value} {vs : List Value} (h : OwnV w base e v vs) (hb : Below w.heap.size w w') : OwnV w' base e v vs := h.congr fun b _ hlt => hb.block b hlt
theorem OwnV.setBelow {w : World} {base : Nat} {e : TypeId} {v : Value} {vs : List Value} (h : OwnV w base e v vs) {b o : Nat} (hb : b < base) (u : Value) : OwnV (w.setCell ⟨b, o, none⟩ u) base e v vs :=
  h.congr fun k hk _ => Below.heap_setCell _ _ _ _ (by show k ≠ b; omega)
theorem OwnV.ownBlock_le {w : World} {base : Nat} {e : TypeId} {v : Value} {vs : List Value} (h : OwnV w base e v vs) : ∀ k, v.ownBlock = some k → base ≤ k := by
  intro k hk
  rcases h.2 with ⟨rfl, _⟩ | ⟨g, cap, cur, rfl, hg, _⟩
  · cases hk
  · simp only [Value.ownBlock, Option.some.injEq] at hk; omega
/-- What a slice of the call's own holds, as a row. -/
theorem OwnV.row {w : World} {base : Nat} {e : TypeId} {g n cap : Nat} {vs : List Value} (h : OwnV w base e (.slice (some ⟨g, 0, none⟩) n cap) vs) : n = vs.length ∧ base ≤ g ∧ g < w.heap.size ∧ n ≤ cap ∧ cap ≤ maxLen ∧ rowOf w g 0 n = some vs := by
  obtain ⟨h1, h2⟩ := h
  rcases h2 with ⟨h2, _⟩ | ⟨g', cap', cur, hv, hg, hh, hc, hm, hs, ht⟩
  · cases h2
  · injection hv with e1 e2 e3
    injection e1 with e1
    injection e1 with e1
    subst e1 e2 e3
    refine ⟨rfl, hg, (Array.getElem?_eq_some_iff.1 hh).1, hc, hm, ?_⟩
    rw [rowOf_block hh 0 vs.length (by omega)]
    congr 1
    rw [Nat.mul_one] at ht
    conv => rhs; rw [← ht]
    simp
theorem OwnV.cell {w : World} {base : Nat} {e : TypeId} {g n cap : Nat} {vs : List Value} (h : OwnV w base e (.slice (some ⟨g, 0, none⟩) n cap) vs) {i : Nat} {x : Value} (hx : vs[i]? = some x) : w.cell? ⟨g, i, none⟩ = some x := by
  have hr := (rowOf_some.1 h.row.2.2.2.2.2).2 i x hx
  rwa [Nat.zero_add] at hr

section
variable {P : Program} {t ty e : TypeId} {i : TypeInfo} {z : Value} {bytes : Nat} {w : World} {base : Nat} {v : Value} {vs : List Value}
/-- An append of cells that lie somewhere, one at least. -/
theorem appTo_vals (hu : P.underlying t = some (.slice e)) (hi : P.info? e = some i) (hs : i.size = 1) (hby : i.bytes = bytes) (hz : i.zero = some z) (hzs : z.cells.size = 1) (kb : bytes ≤ 1000)
    (hown : OwnV w base e v vs) (hbase : base ≤ w.heap.size) (b o cap : Nat) (ms : List Value) (hm : rowOf w b o ms.length = some ms) (h1 : ∀ u ∈ ms, u.oneCell' = true) (hne : 0 < ms.length) (hlen : vs.length + ms.length ≤ 2000000) :
    ∃ g c' w', appTo P t ty w v (.slice (some ⟨b, o, none⟩) ms.length cap) = .ok (.value (.slice (some ⟨g, 0, none⟩) (vs.length + ms.length) c')) w' ∧ OwnV w' base e (.slice (some ⟨g, 0, none⟩) (vs.length + ms.length) c') (vs ++ ms) ∧ w.grownBy w' v.ownBlock ∧ (v.ownBlock = some g ∨ g = w.heap.size) := by
  have hb2 : (vs.length + ms.length) * bytes ≤ 2000000 * 1000 := Nat.mul_le_mul hlen kb
  obtain ⟨g, cap', w', hrun, h2, h3, h4, _⟩ := run_append_lies (P := P) w t ty base e i z 1 bytes hu hi hz hs hby hzs (by omega) v vs.length vs hown
    ⟨b, o, none⟩ ms.length cap ms (by omega) (fun j u hj => by rw [Addr.add_mid]; exact (rowOf_some.1 hm).2 j u hj) h1 hne (by unfold maxLen; omega) (by omega) hbase w.heap.size rfl
  refine ⟨g, cap', w', ?_, ?_, h3, h4⟩
  · simp only [appTo, Sem.run_bind, hrun]; rfl
  · unfold OwnV; rw [List.length_append]; exact h2
/-- An append of one value. -/
theorem appTo_val (hu : P.underlying t = some (.slice e)) (hi : P.info? e = some i) (hs : i.size = 1) (hby : i.bytes = bytes) (hz : i.zero = some z) (hzs : z.cells.size = 1) (kb : bytes ≤ 1000)
    (hown : OwnV w base e v vs) (hbase : base ≤ w.heap.size) (x : Value) (hx : x.oneCell' = true) (hlen : vs.length + 1 ≤ 2000000) :
    ∃ g c' w', appTo P t ty (w.alloc (.cells #[x] e)) v (.slice (some ⟨w.heap.size, 0, none⟩) 1 1) = .ok (.value (.slice (some ⟨g, 0, none⟩) (vs.length + 1) c')) w' ∧ OwnV w' base e (.slice (some ⟨g, 0, none⟩) (vs.length + 1) c') (vs ++ [x]) ∧ (w.alloc (.cells #[x] e)).grownBy w' v.ownBlock ∧ (v.ownBlock = some g ∨ g = w.heap.size + 1) := by
  have hB : Below w.heap.size w (w.alloc (.cells #[x] e)) := (Below.refl _ _).alloc (Nat.le_refl _) _
  obtain ⟨g, c', w', h1, h2, h3, h4⟩ := appTo_vals (ty := ty) hu hi hs hby hz hzs kb (hown.below hB) (Nat.le_trans hbase hB.size) w.heap.size 0 1 [x] (rowOf_alloc_new w [x] e (0, 0) _ 1 rfl rfl) (by simpa using hx) (by simp) (by simpa using hlen)
  exact ⟨g, c', w', h1, h2, h3, by rw [World.size_alloc] at h4; exact h4⟩
/-- The same, in short: what lies below 'base' has not turned. -/
theorem appTo_val' (hu : P.underlying t = some (.slice e)) (hi : P.info? e = some i) (hs : i.size = 1) (hby : i.bytes = bytes) (hz : i.zero = some z) (hzs : z.cells.size = 1) (kb : bytes ≤ 1000)
    (hown : OwnV w base e v vs) (hbase : base ≤ w.heap.size) (x : Value) (hx : x.oneCell' = true) (hlen : vs.length + 1 ≤ 2000000) :
    ∃ g c' w', appTo P t ty (w.alloc (.cells #[x] e)) v (.slice (some ⟨w.heap.size, 0, none⟩) 1 1) = .ok (.value (.slice (some ⟨g, 0, none⟩) (vs.length + 1) c')) w' ∧ OwnV w' base e (.slice (some ⟨g, 0, none⟩) (vs.length + 1) c') (vs ++ [x]) ∧ Below base w w' ∧ w.heap.size ≤ w'.heap.size := by
  have hB : Below w.heap.size w (w.alloc (.cells #[x] e)) := (Below.refl _ _).alloc (Nat.le_refl _) _
  obtain ⟨g, c', w', h1, h2, h3, h4⟩ := appTo_val (ty := ty) hu hi hs hby hz hzs kb hown hbase x hx hlen
  exact ⟨g, c', w', h1, h2, (hB.mono hbase).trans (grown_below h3 hown.ownBlock_le (Nat.le_trans hbase hB.size)), Nat.le_trans hB.size h3.size⟩
end

end Go.Proofs.Ytahkiabpjfcfdaa
