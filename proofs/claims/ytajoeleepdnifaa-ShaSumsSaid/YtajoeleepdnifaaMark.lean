/- append onto a slice of one-cell elements whose row may bear the mark of a conversion ([]byte(s)): the frozen place lies behind the row's cells. No program. -/
import Derived.Test.YtajoeleepdnifaaOwnV
import Derived.Laws.IdiomCopy
namespace Go.Proofs.Ytajoeleepdnifaa
set_option maxRecDepth 100000
open Go.RowKit
set_option linter.unusedVariables false

/-- A slice of the call's own, whose row may be marked behind its end. -/
def OwnM (w : World) (base : Nat) (e : TypeId) (v : Value) (xs : List Value) : Prop :=
  ∃ g cap cur fz, v = .slice (some ⟨g, 0, none⟩) xs.length cap ∧ base ≤ g ∧ w.heap[g]? = some (.cells cur e fz) ∧ (fz.2 = 0 ∨ cap ≤ fz.1) ∧ xs.length ≤ cap ∧ cap ≤ maxLen ∧ cur.size = cap ∧ cur.toList.take xs.length = xs
section
variable {w : World} {base : Nat} {e : TypeId} {v : Value} {xs : List Value}
theorem OwnM.row {g n cap : Nat} (h : OwnM w base e (.slice (some ⟨g, 0, none⟩) n cap) xs) : n = xs.length ∧ base ≤ g ∧ g < w.heap.size ∧ rowOf w g 0 n = some xs := by
  obtain ⟨g', cap', cur, fz, hv, hg, hh, hf, hc, hm, hs, ht⟩ := h
  injection hv with e1 e2 e3
  injection e1 with e1
  injection e1 with e1
  subst e1 e2 e3
  refine ⟨rfl, hg, (Array.getElem?_eq_some_iff.1 hh).1, ?_⟩
  rw [rowOf_block hh 0 xs.length (by omega)]
  congr 1
  conv => rhs; rw [← ht]
  simp
theorem OwnM.cell {g n cap : Nat} (h : OwnM w base e (.slice (some ⟨g, 0, none⟩) n cap) xs) {i : Nat} {x : Value} (hx : xs[i]? = some x) : w.cell? ⟨g, i, none⟩ = some x := by
  have hr := (rowOf_some.1 h.row.2.2.2).2 i x hx
  rwa [Nat.zero_add] at hr
theorem OwnM.below {w' : World} (h : OwnM w base e v xs) (hb : Below w.heap.size w w') : OwnM w' base e v xs := by
  obtain ⟨g, cap, cur, fz, hv, hg, hh, r⟩ := h
  exact ⟨g, cap, cur, fz, hv, hg, by rw [hb.block g (Array.getElem?_eq_some_iff.1 hh).1]; exact hh, r⟩
theorem frozen_mark {b : Nat} {cur : Array Value} {fz : Nat × Nat} {cap i : Nat} (hh : w.heap[b]? = some (.cells cur e fz)) (hf : fz.2 = 0 ∨ cap ≤ fz.1) (hi : i < cap) : w.frozen? ⟨b, i, none⟩ = false := by
  obtain ⟨lo, hi'⟩ := fz
  simp only [World.frozen?, hh, Bool.and_eq_false_iff, decide_eq_false_iff_not]
  simp only at hf
  omega

variable {P : Program} {t ty : TypeId} {i : TypeInfo} {z : Value} {bytes : Nat}
/-- An append of one value. -/
theorem appTo_mark (hu : P.underlying t = some (.slice e)) (hi : P.info? e = some i) (hs : i.size = 1) (hby : i.bytes = bytes) (hz : i.zero = some z) (hzs : z.cells.size = 1) (kb : bytes ≤ 1000)
    (hown : OwnM w base e v xs) (hbase : base ≤ w.heap.size) (x : Value) (hx : x.oneCell' = true) (hlen : xs.length + 1 ≤ 2000000) :
    ∃ g c' w', appTo P t ty (w.alloc (.cells #[x] e)) v (.slice (some ⟨w.heap.size, 0, none⟩) 1 1) = .ok (.value (.slice (some ⟨g, 0, none⟩) (xs.length + 1) c')) w' ∧ OwnM w' base e (.slice (some ⟨g, 0, none⟩) (xs.length + 1) c') (xs ++ [x]) ∧ Below base w w' ∧ w.heap.size ≤ w'.heap.size := by
  have hB : Below w.heap.size w (w.alloc (.cells #[x] e)) := (Below.refl _ _).alloc (Nat.le_refl _) _
  have hown1 := hown.below hB
  have hnews : ∀ j u, ([x] : List Value)[j]? = some u → (w.alloc (.cells #[x] e)).cell? ((⟨w.heap.size, 0, none⟩ : Addr).add j) = some u := fun j u hj => by
    rw [Addr.add_mid, Nat.zero_add]
    match j, hj with
    | 0, hj => simp only [List.getElem?_cons_zero, Option.some.injEq] at hj; subst hj; simp [go_sem]
    | j + 1, hj => simp at hj
  have hsz1 : (w.alloc (.cells #[x] e)).heap.size = w.heap.size + 1 := by simp
  generalize w.alloc (.cells #[x] e) = w1 at *
  have hown1' := hown1
  obtain ⟨g, cap, cur, fz, rfl, hg, hh, hf, hc, hm, hcs, ht⟩ := hown1
  have hglt : g < w1.heap.size := (Array.getElem?_eq_some_iff.1 hh).1
  have hb2 : (xs.length + 1) * bytes ≤ 2000000 * 1000 := Nat.mul_le_mul hlen kb
  by_cases hroom : xs.length + 1 ≤ cap
  · have hff := run_firstCells_some (P := P) w1 i.size 1 ⟨w.heap.size, 0, none⟩ 1 1 [x] (by rw [hs]; rfl) hnews
    have hst := run_storeCells_cells (P := P) g xs.length [x] 0 w1 (fun j hj => by rw [cell_of_row w1 g _ cur e fz hh]; simp at hj ⊢; omega) (fun j hj => frozen_mark hh hf (by simp at hj; omega)) (by simpa using hx)
    have hrun : (Builtin.append_ #[t, t] ty #[.slice (some ⟨g, 0, none⟩) xs.length cap, .slice (some ⟨w.heap.size, 0, none⟩) 1 1]).run P w1 = .ok (.slice (some ⟨g, 0, none⟩) (xs.length + 1) cap) (w1.setCells g xs.length [x]) := by
      simp only [Nat.add_zero] at hst
      rw [hs] at hff
      simp [Builtin.append_, run_underlying hu, sizeOf, typeInfo, hi, Builtin.lenOf, hroom, hff, Addr.add_lit, hs, hst]
    refine ⟨g, cap, w1.setCells g xs.length [x], ?_, ⟨g, cap, cur.setIfInBounds xs.length x, fz, by simp, hg, ?_, hf, by simpa using hroom, hm, by simpa using hcs, ?_⟩, ?_, ?_⟩
    · simp only [appTo, Sem.run_bind, hrun]; rfl
    · show (w1.setCell ⟨g, xs.length, none⟩ x).heap[g]? = _
      simp only [World.setCell, Array.getElem?_modify, if_true, hh, Option.map_some]
      simp
    · have hlt2 : xs.length < cur.toList.length := by have h9 : cur.toList.length = cur.size := Array.length_toList; omega
      rw [List.length_append, List.length_singleton, List.take_add_one, Array.toList_setIfInBounds]
      rw [List.take_set_of_le (Nat.le_refl _), ht, List.getElem?_set_self hlt2]
      rfl
    · exact (hB.mono hbase).trans (Below.setCell (Below.refl _ _) hg x)
    · show _ ≤ (w1.setCell ⟨g, xs.length, none⟩ x).heap.size
      simp [World.setCell]; omega
  · have holds : ∀ j u, xs[j]? = some u → w1.cell? ((⟨g, 0, none⟩ : Addr).add j) = some u := fun j u hj => by rw [Addr.add_mid, Nat.zero_add]; exact hown1'.cell hj
    have hr := run_append_grow (P := P) w1 t ty e i z hu hi hz ⟨g, 0, none⟩ xs.length cap xs (by rw [hs, Nat.mul_one]) holds ⟨w.heap.size, 0, none⟩ 1 1 [x] (by rw [hs]; rfl) hnews (by omega) (by omega) (growslice_fits (by omega) (by rw [hby]; omega))
    have hge := grownCap_ge w1 (xs.length + 1) cap e
    have hcm2 : grownCap w1 (xs.length + 1) cap e ≤ maxLen := grownCap_le_maxLen w1 (xs.length + 1) cap e (by unfold maxLen; omega)
    refine ⟨w1.heap.size, grownCap w1 (xs.length + 1) cap e, _, by simp only [appTo, Sem.run_bind, hr]; rfl, ⟨w1.heap.size, _, _, (0, 0), by simp, by omega, heap_alloc_new w1.drew _, .inl rfl, by simpa using hge, hcm2, ?_, ?_⟩, ?_, ?_⟩
    · simp only [Array.size_append, List.size_toArray, size_zeroCells, hzs, List.length_singleton]
      omega
    · simp only [Array.toList_append, List.append_assoc]
      rw [← List.append_assoc]
      exact List.take_left' (by simp)
    · exact (hB.mono hbase).trans (((Below.refl _ w1).drew).alloc (by simp; omega) _)
    · simp; omega
end

end Go.Proofs.Ytajoeleepdnifaa
