/- Readings opened: slices of numbers, in this seat's numbers. -/
import Derived.Test.YtahkiabpjfcfdaaOpenKey
import Derived.Test.YtahkiabpjfcfdaaInts
namespace Go.Proofs.Ytahkiabpjfcfdaa
set_option maxRecDepth 100000
open Go.RowKit Go.ChangeShapes Go.WideShapes Go.Deep
set_option linter.unusedVariables false

theorem rows_from' {α : Type} {f : α → List Value} {n : Nat} (hf : ∀ x, (f x).length = n) (w : World) (b : Nat) : ∀ (l : List α) (o : Nat), (∀ i x, l[i]? = some x → rowOf w b (o + i * n) n = some (f x)) → rowOf w b o (l.length * n) = some (rows f l)
  | [], o, _ => by rw [rows_nil]; simp [rowOf]
  | x :: l, o, h => by
    have h0 := h 0 x rfl
    rw [Nat.zero_mul, Nat.add_zero] at h0
    have hr := rows_from' hf w b l (o + n) (fun i y hy => by
      have := h (i + 1) y (by simpa using hy)
      rw [show o + n + i * n = o + (i + 1) * n from by rw [Nat.add_mul]; omega]
      exact this)
    have := rowOf_join h0 hr
    rw [rows_cons, List.length_cons, show (l.length + 1) * n = n + l.length * n from by rw [Nat.add_mul]; omega]
    exact this
theorem SlHas.sl' {α : Type} {f : α → List Value} {n : Nat} (hf : ∀ x, (f x).length = n) {w : World} {a : Option Addr} {len cap : Nat} {l : List α} (h : SlHas w a len cap n f l) : SL f n w a len cap l := by
  obtain ⟨h1, h2, h3, h4, h5⟩ := h
  refine ⟨h1, h2, h3, h4, fun hne => ?_⟩
  cases l with
  | nil => exact absurd rfl hne
  | cons x l =>
    obtain ⟨b, o, e, hb, h0⟩ := h5 0 x rfl
    refine ⟨b, o, e, hb, rows_from' hf w b _ o fun i y hy => ?_⟩
    obtain ⟨b', o', e', _, h'⟩ := h5 i y hy
    rw [e] at e'
    injection e' with e'
    injection e' with e1 e2
    subst e1 e2
    exact h'

/-- A number that its kind holds. -/
def InK (k : IntKind) (x : Int) : Prop := (Lit.int k x).wf = true
def kC (k : IntKind) (x : { x : Int // InK k x }) : List Value := [.int k x.1]
section
variable {H : Type} {enc : TypeId × Value → H} {w : World} {base : Nat} {spare : Nat → Bool} {held : Bool}
theorem open_kind {t e : TypeId} {k : IntKind} (hs : Try.prog.underlying t = some (.slice e)) (he : Try.prog.underlying e = some (.int k)) (hc : Try.prog.cellsOf e = 1) {v : Value} {d : DataW H} {p : List MemPlace} {r : Reach} {b0 : Nat} (hv : Value.okWide Try.prog w r b0 t v) (h : DataW.Trod enc Try.prog w base spare held t v d p) :
    ∃ (a : Option Addr) (n c : Nat) (l : List { x : Int // InK k x }), v = .slice a n c ∧ SL (kC k) 1 w a n c l := by
  have hv' := hv
  simp only [Value.okWide, hs] at hv'
  have hsl : ∃ a n c, v = .slice a n c := by
    cases v <;> simp [Cell.okWide, Cell.ok, hs] at hv' ⊢
  obtain ⟨a, n, c, rfl⟩ := hsl
  obtain ⟨fuel, hf⟩ := h
  obtain ⟨a', n', c', l, heq, hl⟩ := trod_slice_rows (kC k) (by omega : 0 < 1) hs hc (fun m cs x h => by
    obtain ⟨y, hy, _, hwf⟩ := DataW.trod_int he h
    exact ⟨⟨y, hwf⟩, hy⟩) hf
  simp only [Value.cells, List.cons.injEq, and_true, Value.slice.injEq] at heq
  obtain ⟨rfl, rfl, rfl⟩ := heq
  exact ⟨a, n, c, l, rfl, SlHas.sl' (f := kC k) (n := 1) (fun _ => rfl) hl⟩
end
theorem kC_iC (l : List { x : Int // InK .i64 x }) : rows (kC .i64) l = rows iC (l.map (·.1)) := by
  induction l with
  | nil => rw [List.map_nil, rows_nil, rows_nil]
  | cons x l ih => rw [List.map_cons, rows_cons, rows_cons, ih]; rfl
theorem open_i64s {H : Type} {enc : TypeId × Value → H} {w : World} {base : Nat} {spare : Nat → Bool} {held : Bool} {v : Value} {d : DataW H} {p : List MemPlace} {r : Reach} {b0 : Nat} (hv : Value.okWide Try.prog w r b0 25 v) (h : DataW.Trod enc Try.prog w base spare held 25 v d p) :
    ∃ (a : Option Addr) (n c : Nat) (l : List Int), v = .slice a n c ∧ IL w a n c l := by
  obtain ⟨a, n, c, l, rfl, h1, h2, h3, h4, h5⟩ := open_kind (k := .i64) Try.underlying25 Try.underlying2 (by kernel_rfl) hv h
  refine ⟨a, n, c, l.map (·.1), rfl, ⟨by rw [List.length_map]; exact h1, h2, h3, h4, fun hne => ?_⟩, fun x hx => ?_⟩
  · obtain ⟨b, o, e, hb, hr⟩ := h5 (fun e => hne (by rw [e]; rfl))
    exact ⟨b, o, e, hb, by rw [List.length_map, ← kC_iC]; exact hr⟩
  · obtain ⟨y, hy, rfl⟩ := List.mem_map.1 hx
    have := bounds_i64 y.2
    exact ⟨this.1, this.2⟩
end Go.Proofs.Ytahkiabpjfcfdaa
