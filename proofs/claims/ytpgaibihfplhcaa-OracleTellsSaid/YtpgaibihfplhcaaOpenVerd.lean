/- Readings opened: verdicts, in this seat's numbers. -/
import Derived.Test.YtpgaibihfplhcaaOpenKeys
import Derived.Test.YtpgaibihfplhcaaVerd
namespace Go.Proofs.Ytpgaibihfplhcaa
open Go.RowKit Go.ChangeShapes Go.WideShapes Go.Deep
set_option linter.unusedVariables false
section
variable {H : Type} {enc : TypeId × Value → H} {w : World} {base : Nat} {spare : Nat → Bool} {held : Bool}
theorem drop_split' {α : Type} (l : List α) (a n b : Nat) (hb : b = a + n) : l.drop a = (l.drop a).take n ++ l.drop b := by
  subst hb
  rw [← List.drop_drop, List.take_append_drop]
theorem trod_bool' {fuel : Nat} {cs : List Value} {x : DataW H × List MemPlace} (hc : cs.length = 1) (h : DataW.trod enc Try.prog w base spare held fuel 4 cs = some x) : ∃ b : Bool, cs = [.bool b] := by
  obtain ⟨b, hb, _⟩ := DataW.trod_bool Try.underlying4 h
  exact ⟨b, hb⟩
theorem trod_ver {fuel : Nat} {cs : List Value} {x : DataW H × List MemPlace} (h : DataW.trod enc Try.prog w base spare held fuel 40 cs = some x) : ∃ v : Verd, cs = verC v := by
  obtain ⟨xs, n, _, _, hl, hxl, hf⟩ := DataW.trod_struct Try.underlying40 h
  have hxl' : xs.length = 3 := hxl
  have h0 := hf 0 _ rfl
  have h1 := hf 1 _ rfl
  have h2 := hf 2 _ rfl
  have c0 : Try.prog.cellsOf 23 = 32 := by kernel_rfl
  have c1 : Try.prog.cellsOf 3 = 1 := by kernel_rfl
  have c2 : Try.prog.cellsOf 4 = 1 := by kernel_rfl
  have cl : cs.length = 34 := hl.trans (by kernel_rfl)
  obtain ⟨y0, e0⟩ : ∃ y, xs[0]? = some y := ⟨xs[0]'(by omega), List.getElem?_eq_getElem (by omega)⟩
  obtain ⟨y1, e1⟩ : ∃ y, xs[1]? = some y := ⟨xs[1]'(by omega), List.getElem?_eq_getElem (by omega)⟩
  obtain ⟨y2, e2⟩ : ∃ y, xs[2]? = some y := ⟨xs[2]'(by omega), List.getElem?_eq_getElem (by omega)⟩
  rw [e0] at h0; rw [e1] at h1; rw [e2] at h2
  simp only [List.getElem_toArray, List.getElem_cons_zero, List.getElem_cons_succ] at h0 h1 h2
  rw [c0] at h0; rw [c1] at h1; rw [c2] at h2
  obtain ⟨k, hk⟩ := trod_key'' h0
  obtain ⟨i, hi, _, hw⟩ := DataW.trod_int Try.underlying3 h1
  obtain ⟨b, hb⟩ := trod_bool' (by rw [List.length_take, List.length_drop]; omega) h2
  refine ⟨⟨k, i, b⟩, ?_⟩
  have : cs = cs.drop 0 := rfl
  rw [this, drop_split' cs 0 32 32 rfl, drop_split' cs 32 1 33 rfl, drop_split' cs 33 1 34 rfl, hk, hi, hb, List.drop_of_length_le (by omega)]
  unfold verC; simp
theorem open_verdicts {v : Value} {d : DataW H} {p : List MemPlace} {r : Reach} {b0 : Nat} (hv : Value.okWide Try.prog w r b0 36 v) (h : DataW.Trod enc Try.prog w base spare held 36 v d p) :
    ∃ (a : Option Addr) (n c : Nat) (l : List Verd), v = .slice a n c ∧ VL w a n c l := by
  have hv' := hv
  simp only [Value.okWide, Try.underlying36] at hv'
  have hs : ∃ a n c, v = .slice a n c := by
    cases v <;> simp [Cell.okWide, Cell.ok, Try.underlying36] at hv' ⊢
  obtain ⟨a, n, c, rfl⟩ := hs
  obtain ⟨fuel, hf⟩ := h
  obtain ⟨a', n', c', l, he, hl⟩ := trod_slice_rows verC (by omega : 0 < 34) Try.underlying36 (by kernel_rfl) (fun m cs x h => trod_ver h) hf
  simp only [Value.cells, List.cons.injEq, and_true, Value.slice.injEq] at he
  obtain ⟨rfl, rfl, rfl⟩ := he
  exact ⟨a, n, c, l, rfl, SlHas.sl verC_length hl⟩
end
end Go.Proofs.Ytpgaibihfplhcaa
