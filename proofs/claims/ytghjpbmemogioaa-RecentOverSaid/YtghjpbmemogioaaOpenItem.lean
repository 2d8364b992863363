/- Readings opened: items, in this seat's numbers. -/
import Derived.Test.YtghjpbmemogioaaOpenRows
import Derived.Test.YtghjpbmemogioaaOpenKey1
import Derived.Test.YtghjpbmemogioaaItem
import Derived.Test.YtghjpbmemogioaaRecentR
namespace Go.Proofs.Ytghjpbmemogioaa
open Go.RowKit Go.ChangeShapes Go.WideShapes Go.Deep
set_option linter.unusedVariables false
section
variable {H : Type} {enc : TypeId × Value → H} {w : World} {base : Nat} {spare : Nat → Bool} {held : Bool}
theorem drop_split' {α : Type} (l : List α) (a n b : Nat) (hb : b = a + n) : l.drop a = (l.drop a).take n ++ l.drop b := by
  subst hb
  rw [← List.drop_drop, List.take_append_drop]
theorem trod_it {fuel : Nat} {cs : List Value} {x : DataW H × List MemPlace} (h : DataW.trod enc Try.prog w base spare held fuel 55 cs = some x) : ∃ v : ItemV, cs = itC v ∧ okI v := by
  obtain ⟨xs, n, _, _, hl, hxl, hf⟩ := DataW.trod_struct Try.underlying55 h
  have hxl' : xs.length = 2 := hxl
  have h0 := hf 0 _ rfl
  have h1 := hf 1 _ rfl
  have c0 : Try.prog.cellsOf 40 = 32 := by kernel_rfl
  have c1 : Try.prog.cellsOf 41 = 1 := by kernel_rfl
  have cl : cs.length = 33 := hl.trans (by kernel_rfl)
  obtain ⟨y0, e0⟩ : ∃ y, xs[0]? = some y := ⟨xs[0]'(by omega), List.getElem?_eq_getElem (by omega)⟩
  obtain ⟨y1, e1⟩ : ∃ y, xs[1]? = some y := ⟨xs[1]'(by omega), List.getElem?_eq_getElem (by omega)⟩
  rw [e0] at h0; rw [e1] at h1
  simp only [List.getElem_toArray, List.getElem_cons_zero, List.getElem_cons_succ] at h0 h1
  rw [c0] at h0; rw [c1] at h1
  obtain ⟨k, hk⟩ := trod_key'' h0
  obtain ⟨i, hi, _, hw⟩ := DataW.trod_int Try.underlying41 h1
  refine ⟨⟨k, i⟩, ?_, ?_⟩
  · have : cs = cs.drop 0 := rfl
    rw [this, drop_split' cs 0 32 32 rfl, drop_split' cs 32 1 33 rfl, hk, hi, List.drop_of_length_le (by omega)]
    unfold itC; simp
  · have := bounds_u64 hw
    exact ⟨by show 0 ≤ i; omega, by show i < _; omega⟩
theorem SL.of_sub {α β : Type} {f : α → List Value} {g : β → α} {n : Nat} {w : World} {a : Option Addr} {len cap : Nat} {l : List β} (h : SL (fun x => f (g x)) n w a len cap l) : SL f n w a len cap (l.map g) := by
  obtain ⟨h1, h2, h3, h4, h5⟩ := h
  refine ⟨by rw [List.length_map]; exact h1, h2, h3, h4, fun hne => ?_⟩
  obtain ⟨b, o, e, hb, hr⟩ := h5 (fun e => hne (by rw [e]; rfl))
  refine ⟨b, o, e, hb, ?_⟩
  rw [List.length_map, hr]
  unfold rows
  rw [List.flatMap_map]
theorem open_items {v : Value} {d : DataW H} {p : List MemPlace} {r : Reach} {b0 : Nat} (hv : Value.okWide Try.prog w r b0 38 v) (h : DataW.Trod enc Try.prog w base spare held 38 v d p) :
    ∃ (a : Option Addr) (n c : Nat) (l : List ItemV), v = .slice a n c ∧ IL w a n c l ∧ ∀ x ∈ l, okI x := by
  have hv' := hv
  simp only [Value.okWide, Try.underlying38] at hv'
  have hs : ∃ a n c, v = .slice a n c := by
    cases v <;> simp [Cell.okWide, Cell.ok, Try.underlying38] at hv' ⊢
  obtain ⟨a, n, c, rfl⟩ := hs
  obtain ⟨fuel, hf⟩ := h
  obtain ⟨a', n', c', l, he, hl⟩ := trod_slice_rows (fun x : {v : ItemV // okI v} => itC x.1) (by omega : 0 < 33) Try.underlying38 (by kernel_rfl) (fun m cs x h => by obtain ⟨v, h1, h2⟩ := trod_it h; exact ⟨⟨v, h2⟩, h1⟩) hf
  simp only [Value.cells, List.cons.injEq, and_true, Value.slice.injEq] at he
  obtain ⟨rfl, rfl, rfl⟩ := he
  refine ⟨a, n, c, l.map (·.1), rfl, SL.of_sub (f := itC) (g := fun x : {v : ItemV // okI v} => x.1) (SlHas.sl (fun x => itC_length _) hl), fun x hx => ?_⟩
  obtain ⟨y, _, rfl⟩ := List.mem_map.1 hx
  exact y.2
end
end Go.Proofs.Ytghjpbmemogioaa
