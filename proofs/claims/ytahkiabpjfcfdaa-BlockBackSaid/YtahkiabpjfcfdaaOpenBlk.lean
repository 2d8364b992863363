/- Readings opened: blocks. -/
import Derived.Test.YtahkiabpjfcfdaaBlk
import Derived.Test.YtahkiabpjfcfdaaBase2
namespace Go.Proofs.Ytahkiabpjfcfdaa
set_option maxRecDepth 100000
open Go.RowKit Go.ChangeShapes Go.WideShapes Go.Deep
set_option linter.unusedVariables false
section
variable {H : Type} {enc : TypeId × Value → H} {w : World} {base : Nat} {spare : Nat → Bool} {held : Bool}
theorem SL.of_sub' {α β : Type} {f : α → List Value} {g : β → α} {n : Nat} {w : World} {a : Option Addr} {len cap : Nat} {l : List β} (h : SL (fun x => f (g x)) n w a len cap l) : SL f n w a len cap (l.map g) := by
  obtain ⟨h1, h2, h3, h4, h5⟩ := h
  refine ⟨by rw [List.length_map]; exact h1, h2, h3, h4, fun hne => ?_⟩
  obtain ⟨b, o, e, hb, hr⟩ := h5 (fun e => hne (by rw [e]; rfl))
  refine ⟨b, o, e, hb, ?_⟩
  rw [List.length_map, hr]
  unfold rows
  rw [List.flatMap_map]
theorem open_blk {v : Value} {d : DataW H} {p : List MemPlace} {r : Reach} {b0 : Nat} (hv : Value.okWide Try.prog w r b0 50 v) (h : DataW.Trod enc Try.prog w base spare held 50 v d p) :
    ∃ (b : BlkV) (qs : List (TxV × TxD)) (d : BlkD), v = .agg (blkC b).toArray ∧ BlkL w b qs d := by
  obtain ⟨cs, rfl, _⟩ := okWide_struct Try.underlying50 hv
  obtain ⟨fuel, hf⟩ := h
  simp only [Value.cells] at hf
  obtain ⟨xs, n, _, _, hl, hxl, hf⟩ := DataW.trod_struct Try.underlying50 hf
  have hxl' : xs.length = 4 := hxl
  have h0 := hf 0 _ rfl
  have h1 := hf 1 _ rfl
  have h2 := hf 2 _ rfl
  have h3 := hf 3 _ rfl
  have c0 : Try.prog.cellsOf 38 = 32 := by kernel_rfl
  have c2 : Try.prog.cellsOf 34 = 1 := by kernel_rfl
  have c3 : Try.prog.cellsOf 48 = 1 := by kernel_rfl
  have cl : cs.toList.length = 66 := hl.trans (by kernel_rfl)
  have hy : ∀ i, i < 4 → ∃ y, xs[i]? = some y := fun i hi => ⟨xs[i]'(by omega), List.getElem?_eq_getElem (by omega)⟩
  obtain ⟨y0, e0⟩ := hy 0 (by omega)
  obtain ⟨y1, e1⟩ := hy 1 (by omega)
  obtain ⟨y2, e2⟩ := hy 2 (by omega)
  obtain ⟨y3, e3⟩ := hy 3 (by omega)
  rw [e0] at h0; rw [e1] at h1; rw [e2] at h2; rw [e3] at h3
  simp only [List.getElem_toArray, List.getElem_cons_zero, List.getElem_cons_succ] at h0 h1 h2 h3
  rw [c0] at h0 h1; rw [c2] at h2; rw [c3] at h3
  obtain ⟨k0, hk0⟩ := trod_key' h0
  obtain ⟨k1, hk1⟩ := trod_key' h1
  obtain ⟨i, hi, _, hw⟩ := DataW.trod_int Try.underlying34 h2
  obtain ⟨a, len, cap, l, hs, H3⟩ := trod_slice_rows (α := { q : TxV × TxD // TxL w q.1 q.2 }) (fun q => txC q.1.1) (by omega : 0 < 38) Try.underlying48 (by kernel_rfl)
    (fun m cs x h => by obtain ⟨t, ins, outs, nulls, notes, hc, hh⟩ := trod_tx h; exact ⟨⟨(t, _), TxL.of hh⟩, hc⟩) h3
  refine ⟨⟨k0, k1, i, ⟨a, len, cap⟩⟩, l.map (·.1), ⟨k0, k1, i, (l.map (·.1)).map (·.2)⟩, ?_, ?_⟩
  · have hcs : cs.toList = blkC ⟨k0, k1, i, ⟨a, len, cap⟩⟩ := by
      have : cs.toList = cs.toList.drop 0 := rfl
      rw [this, drop_split cs.toList 0 32 32 rfl, drop_split cs.toList 32 32 64 rfl, drop_split cs.toList 64 1 65 rfl, drop_split cs.toList 65 1 66 rfl, hk0, hk1, hi, hs, List.drop_of_length_le (by omega)]
      unfold blkC; simp
    rw [← hcs]
  · refine ⟨SL.of_sub' (f := fun q : TxV × TxD => txC q.1) (g := fun q : { q : TxV × TxD // TxL w q.1 q.2 } => q.1) (SlHas.sl (fun x => txC_length _) H3), ?_, rfl, rfl, rfl, ⟨rfl, bounds_u32 hw⟩⟩
    intro q hq
    obtain ⟨q', _, rfl⟩ := List.mem_map.1 hq
    exact q'.2
end
end Go.Proofs.Ytahkiabpjfcfdaa
