/- Readings opened: points, outs, transactions. -/
import Derived.Test.YtahkiabpjfcfdaaOpenKey
import Derived.Test.YtahkiabpjfcfdaaTx
namespace Go.Proofs.Ytahkiabpjfcfdaa
set_option maxRecDepth 100000
open Go.RowKit Go.ChangeShapes Go.WideShapes Go.Deep
set_option linter.unusedVariables false
section
variable {H : Type} {enc : TypeId × Value → H} {w : World} {base : Nat} {spare : Nat → Bool} {held : Bool}

theorem drop_split {α : Type} (l : List α) (a n b : Nat) (hb : b = a + n) : l.drop a = (l.drop a).take n ++ l.drop b := by
  subst hb
  rw [← List.drop_drop, List.take_append_drop]

theorem trod_key' {fuel : Nat} {cs : List Value} {x : DataW H × List MemPlace} (h : DataW.trod enc Try.prog w base spare held fuel 38 cs = some x) : ∃ k : Key, cs = keyC k :=
  trod_key Try.underlying38 Try.underlying5 (by kernel_rfl) (by kernel_rfl) h

theorem trod_point {fuel : Nat} {cs : List Value} {x : DataW H × List MemPlace} (h : DataW.trod enc Try.prog w base spare held fuel 59 cs = some x) : ∃ p : PointV, cs = pointC p ∧ 0 ≤ p.idx ∧ p.idx ≤ 4294967295 := by
  obtain ⟨xs, n, _, _, hl, hxl, hf⟩ := DataW.trod_struct Try.underlying59 h
  have hxl' : xs.length = 2 := hxl
  have h0 := hf 0 _ rfl
  have h1 := hf 1 _ rfl
  have c0 : Try.prog.cellsOf 38 = 32 := by kernel_rfl
  have c1 : Try.prog.cellsOf 34 = 1 := by kernel_rfl
  have cl : cs.length = 33 := hl.trans (by kernel_rfl)
  obtain ⟨y0, e0⟩ : ∃ y, xs[0]? = some y := ⟨xs[0]'(by omega), List.getElem?_eq_getElem (by omega)⟩
  obtain ⟨y1, e1⟩ : ∃ y, xs[1]? = some y := ⟨xs[1]'(by omega), List.getElem?_eq_getElem (by omega)⟩
  rw [e0] at h0; rw [e1] at h1
  simp only [List.getElem_toArray, List.getElem_cons_zero, List.getElem_cons_succ] at h0 h1
  rw [c0] at h0; rw [c1] at h1
  obtain ⟨k, hk⟩ := trod_key' h0
  obtain ⟨i, hi, _, hw⟩ := DataW.trod_int Try.underlying34 h1
  refine ⟨⟨k, i⟩, ?_, (bounds_u32 hw).1, (bounds_u32 hw).2⟩
  have : cs = cs.drop 0 := rfl
  rw [this, drop_split cs 0 32 32 rfl, drop_split cs 32 1 33 rfl, hk, hi, List.drop_of_length_le (by omega)]
  unfold pointC; simp

theorem trod_out {fuel : Nat} {cs : List Value} {x : DataW H × List MemPlace} (h : DataW.trod enc Try.prog w base spare held fuel 101 cs = some x) : ∃ p : OutV, cs = outC p ∧ -9223372036854775808 ≤ p.value ∧ p.value ≤ 9223372036854775807 := by
  obtain ⟨xs, n, _, _, hl, hxl, hf⟩ := DataW.trod_struct Try.underlying101 h
  have hxl' : xs.length = 2 := hxl
  have h0 := hf 0 _ rfl
  have h1 := hf 1 _ rfl
  have c0 : Try.prog.cellsOf 38 = 32 := by kernel_rfl
  have c1 : Try.prog.cellsOf 2 = 1 := by kernel_rfl
  have cl : cs.length = 33 := hl.trans (by kernel_rfl)
  obtain ⟨y0, e0⟩ : ∃ y, xs[0]? = some y := ⟨xs[0]'(by omega), List.getElem?_eq_getElem (by omega)⟩
  obtain ⟨y1, e1⟩ : ∃ y, xs[1]? = some y := ⟨xs[1]'(by omega), List.getElem?_eq_getElem (by omega)⟩
  rw [e0] at h0; rw [e1] at h1
  simp only [List.getElem_toArray, List.getElem_cons_zero, List.getElem_cons_succ] at h0 h1
  rw [c1] at h0; rw [c0] at h1
  obtain ⟨k, hk⟩ := trod_key' h1
  obtain ⟨i, hi, _, hw⟩ := DataW.trod_int Try.underlying2 h0
  refine ⟨⟨i, k⟩, ?_, (bounds_i64 hw).1, (bounds_i64 hw).2⟩
  have : cs = cs.drop 0 := rfl
  rw [this, drop_split cs 0 1 1 rfl, drop_split cs 1 32 33 rfl, hk, hi, List.drop_of_length_le (by omega)]
  unfold outC; simp

/-- What a transaction's slices hold in a world. -/
structure TxHas (w : World) (t : TxV) (insL : List PointV) (outsL : List OutV) (nullsL notesL : List Key) : Prop where
  ins : SlHas w t.ins.a t.ins.len t.ins.cap 33 pointC insL
  outs : SlHas w t.outs.a t.outs.len t.outs.cap 33 outC outsL
  nulls : SlHas w t.nulls.a t.nulls.len t.nulls.cap 32 keyC nullsL
  notes : SlHas w t.notes.a t.notes.len t.notes.cap 32 keyC notesL
  idx : ∀ p : PointV, p ∈ insL → 0 ≤ p.idx ∧ p.idx ≤ 4294967295
  val : ∀ p : OutV, p ∈ outsL → -9223372036854775808 ≤ p.value ∧ p.value ≤ 9223372036854775807
  exp : 0 ≤ t.exp ∧ t.exp ≤ 4294967295
  bal : -9223372036854775808 ≤ t.bal ∧ t.bal ≤ 9223372036854775807

theorem SlHas.sub {α : Type} {w : World} {a : Option Addr} {len cap n : Nat} {f : α → List Value} {p : α → Prop} {l : List { x : α // p x }} (h : SlHas w a len cap n (fun x => f x.1) l) : SlHas w a len cap n f (l.map (·.1)) := by
  obtain ⟨h1, h2, h3, h4, h5⟩ := h
  refine ⟨by simpa using h1, h2, h3, h4, fun i x hx => ?_⟩
  rw [List.getElem?_map, Option.map_eq_some_iff] at hx
  obtain ⟨y, hy, rfl⟩ := hx
  exact h5 i y hy

theorem trod_tx {fuel : Nat} {cs : List Value} {x : DataW H × List MemPlace} (h : DataW.trod enc Try.prog w base spare held fuel 41 cs = some x) :
    ∃ (t : TxV) (ins : List PointV) (outs : List OutV) (nulls notes : List Key), cs = txC t ∧ TxHas w t ins outs nulls notes := by
  obtain ⟨xs, n, _, _, hl, hxl, hf⟩ := DataW.trod_struct Try.underlying41 h
  have h0 := hf 0 _ rfl
  have h1 := hf 1 _ rfl
  have h2 := hf 2 _ rfl
  have h3 := hf 3 _ rfl
  have h4 := hf 4 _ rfl
  have h5 := hf 5 _ rfl
  have h6 := hf 6 _ rfl
  have hxl' : xs.length = 7 := hxl
  have c0 : Try.prog.cellsOf 34 = 1 := by kernel_rfl
  have c1 : Try.prog.cellsOf 35 = 1 := by kernel_rfl
  have c2 : Try.prog.cellsOf 36 = 1 := by kernel_rfl
  have c3 : Try.prog.cellsOf 38 = 32 := by kernel_rfl
  have c4 : Try.prog.cellsOf 39 = 1 := by kernel_rfl
  have c6 : Try.prog.cellsOf 2 = 1 := by kernel_rfl
  have cl : cs.length = 38 := hl.trans (by kernel_rfl)
  have hy : ∀ i, i < 7 → ∃ y, xs[i]? = some y := fun i hi => ⟨xs[i]'(by omega), List.getElem?_eq_getElem (by omega)⟩
  obtain ⟨y0, e0⟩ := hy 0 (by omega)
  obtain ⟨y1, e1⟩ := hy 1 (by omega)
  obtain ⟨y2, e2⟩ := hy 2 (by omega)
  obtain ⟨y3, e3⟩ := hy 3 (by omega)
  obtain ⟨y4, e4⟩ := hy 4 (by omega)
  obtain ⟨y5, e5⟩ := hy 5 (by omega)
  obtain ⟨y6, e6⟩ := hy 6 (by omega)
  rw [e0] at h0; rw [e1] at h1; rw [e2] at h2; rw [e3] at h3; rw [e4] at h4; rw [e5] at h5; rw [e6] at h6
  simp only [List.getElem_toArray, List.getElem_cons_zero, List.getElem_cons_succ] at h0 h1 h2 h3 h4 h5 h6
  rw [c0] at h0; rw [c1] at h1; rw [c2] at h2; rw [c3] at h3; rw [c4] at h4 h5; rw [c6] at h6
  obtain ⟨ex, hex, _, hw0⟩ := DataW.trod_int Try.underlying34 h0
  obtain ⟨a1, l1, p1, s1, k1, H1⟩ := trod_slice_rows (α := { p : PointV // 0 ≤ p.idx ∧ p.idx ≤ 4294967295 }) (fun p => pointC p.1) (by omega : 0 < 33) Try.underlying35 (by kernel_rfl) (fun m cs x h => by obtain ⟨p, hp, hb⟩ := trod_point h; exact ⟨⟨p, hb⟩, hp⟩) h1
  obtain ⟨a2, l2, p2, s2, k2, H2⟩ := trod_slice_rows (α := { p : OutV // -9223372036854775808 ≤ p.value ∧ p.value ≤ 9223372036854775807 }) (fun p => outC p.1) (by omega : 0 < 33) Try.underlying36 (by kernel_rfl) (fun m cs x h => by obtain ⟨p, hp, hb⟩ := trod_out h; exact ⟨⟨p, hb⟩, hp⟩) h2
  obtain ⟨k, hk⟩ := trod_key' h3
  obtain ⟨a4, l4, p4, s4, k4, H4⟩ := trod_slice_rows keyC (by omega : 0 < 32) Try.underlying39 (by kernel_rfl) (fun m cs x h => trod_key' h) h4
  obtain ⟨a5, l5, p5, s5, k5, H5⟩ := trod_slice_rows keyC (by omega : 0 < 32) Try.underlying39 (by kernel_rfl) (fun m cs x h => trod_key' h) h5
  obtain ⟨bl, hbl, _, hw6⟩ := DataW.trod_int Try.underlying2 h6
  refine ⟨⟨ex, ⟨a1, l1, p1⟩, ⟨a2, l2, p2⟩, k, ⟨a4, l4, p4⟩, ⟨a5, l5, p5⟩, bl⟩, s1.map (·.1), s2.map (·.1), s4, s5, ?_, ?_⟩
  · have : cs = cs.drop 0 := rfl
    rw [this, drop_split cs 0 1 1 rfl, drop_split cs 1 1 2 rfl, drop_split cs 2 1 3 rfl, drop_split cs 3 32 35 rfl, drop_split cs 35 1 36 rfl, drop_split cs 36 1 37 rfl, drop_split cs 37 1 38 rfl,
      hex, k1, k2, hk, k4, k5, hbl, List.drop_of_length_le (by omega)]
    unfold txC; simp
  · refine ⟨SlHas.sub H1, SlHas.sub H2, H4, H5, ?_, ?_, bounds_u32 hw0, bounds_i64 hw6⟩
    · intro p hp; obtain ⟨y, _, rfl⟩ := List.mem_map.1 hp; exact y.2
    · intro p hp; obtain ⟨y, _, rfl⟩ := List.mem_map.1 hp; exact y.2

theorem open_tx {v : Value} {d : DataW H} {p : List MemPlace} {r : Reach} {b0 : Nat} (hv : Value.okWide Try.prog w r b0 41 v) (h : DataW.Trod enc Try.prog w base spare held 41 v d p) :
    ∃ (t : TxV) (ins : List PointV) (outs : List OutV) (nulls notes : List Key), v = .agg (txC t).toArray ∧ TxHas w t ins outs nulls notes := by
  obtain ⟨cs, rfl, _⟩ := okWide_struct Try.underlying41 hv
  obtain ⟨fuel, hf⟩ := h
  obtain ⟨t, ins, outs, nulls, notes, hc, hh⟩ := trod_tx hf
  simp only [Value.cells] at hc
  exact ⟨t, ins, outs, nulls, notes, by rw [← hc], hh⟩

theorem open_key {v : Value} {d : DataW H} {p : List MemPlace} {r : Reach} {b0 : Nat} (hv : Value.okWide Try.prog w r b0 38 v) (h : DataW.Trod enc Try.prog w base spare held 38 v d p) :
    ∃ k : Key, v = .agg (keyC k).toArray := by
  have hv' := hv
  simp only [Value.okWide, Try.underlying38] at hv'
  obtain ⟨cs, rfl, _⟩ := hv'
  obtain ⟨fuel, hf⟩ := h
  obtain ⟨k, hk⟩ := trod_key' hf
  simp only [Value.cells] at hk
  exact ⟨k, by rw [← hk]⟩
end
end Go.Proofs.Ytahkiabpjfcfdaa
