/- Readings opened: slices of bytes as numbers. -/
import Derived.Test.YtghjpbmemogioaaOpenKey
import Derived.Test.YtghjpbmemogioaaBase
import Derived.Test.YtghjpbmemogioaaRows
namespace Go.Proofs.Ytghjpbmemogioaa
set_option maxRecDepth 100000
open Go.RowKit Go.ChangeShapes Go.WideShapes Go.Deep
set_option linter.unusedVariables false

theorem rows_from' {α : Type} {f : α → List Value} {n : Nat} (hf : ∀ x, (f x).length = n) (w : World) (b : Nat) : ∀ (l : List α) (o : Nat), (∀ i x, l[i]? = some x → rowOf w b (o + i * n) n = some (f x)) → rowOf w b o (l.length * n) = some (rows f l)
  | [], o, _ => by rw [rows_nil]; simp [rowOf]
  | x :: l, o, h => by
    have h0 := h 0 x rfl
    rw [Nat.zero_mul, Nat.add_zero] at h0
    have hr := rows_from' hf w b l (o + n) (fun i y hy => by
      have := h (i + 1) y (by simpa using hy)
      rw [show o + n + i * n = o + (i + 1) * n from by rw [Nat.add_mul]; omega]
      exact this)
    have := rowOf_join h0 hr
    rw [rows_cons, List.length_cons, show (l.length + 1) * n = n + l.length * n from by rw [Nat.add_mul]; omega]
    exact this
theorem SlHas.sl' {α : Type} {f : α → List Value} {n : Nat} (hf : ∀ x, (f x).length = n) {w : World} {a : Option Addr} {len cap : Nat} {l : List α} (h : SlHas w a len cap n f l) : SL f n w a len cap l := by
  obtain ⟨h1, h2, h3, h4, h5⟩ := h
  refine ⟨h1, h2, h3, h4, fun hne => ?_⟩
  cases l with
  | nil => exact absurd rfl hne
  | cons x l =>
    obtain ⟨b, o, e, hb, h0⟩ := h5 0 x rfl
    refine ⟨b, o, e, hb, rows_from' hf w b _ o fun i y hy => ?_⟩
    obtain ⟨b', o', e', _, h'⟩ := h5 i y hy
    rw [e] at e'
    injection e' with e'
    injection e' with e1 e2
    subst e1 e2
    exact h'

/-- A number that its kind holds. -/
def InK (k : IntKind) (x : Int) : Prop := (Lit.int k x).wf = true
def kC (k : IntKind) (x : { x : Int // InK k x }) : List Value := [.int k x.1]
section
variable {H : Type} {enc : TypeId × Value → H} {w : World} {base : Nat} {spare : Nat → Bool} {held : Bool}
theorem open_kind {t e : TypeId} {k : IntKind} (hs : Try.prog.underlying t = some (.slice e)) (he : Try.prog.underlying e = some (.int k)) (hc : Try.prog.cellsOf e = 1) {v : Value} {d : DataW H} {p : List MemPlace} {r : Reach} {b0 : Nat} (hv : Value.okWide Try.prog w r b0 t v) (h : DataW.Trod enc Try.prog w base spare held t v d p) :
    ∃ (a : Option Addr) (n c : Nat) (l : List { x : Int // InK k x }), v = .slice a n c ∧ SL (kC k) 1 w a n c l := by
  have hv' := hv
  simp only [Value.okWide, hs] at hv'
  have hsl : ∃ a n c, v = .slice a n c := by
    cases v <;> simp [Cell.okWide, Cell.ok, hs] at hv' ⊢
  obtain ⟨a, n, c, rfl⟩ := hsl
  obtain ⟨fuel, hf⟩ := h
  obtain ⟨a', n', c', l, heq, hl⟩ := trod_slice_rows (kC k) (by omega : 0 < 1) hs hc (fun m cs x h => by
    obtain ⟨y, hy, _, hwf⟩ := DataW.trod_int he h
    exact ⟨⟨y, hwf⟩, hy⟩) hf
  simp only [Value.cells, List.cons.injEq, and_true, Value.slice.injEq] at heq
  obtain ⟨rfl, rfl, rfl⟩ := heq
  exact ⟨a, n, c, l, rfl, SlHas.sl' (f := kC k) (n := 1) (fun _ => rfl) hl⟩
end
/-- A slice of bytes that came in, as numbers. -/
structure BN (w : World) (a : Option Addr) (n c : Nat) (l : List Nat) : Prop where
  len : n = l.length
  max : n ≤ maxLen
  at_ : ∀ (i x : Nat), l[i]? = some x → ∃ b o, a = some ⟨b, o, none⟩ ∧ b < w.heap.size ∧ w.cell? ⟨b, o + i, none⟩ = some (.int .u8 (x : Int))
  lt : ∀ x ∈ l, x < 256
theorem open_u8s {H : Type} {enc : TypeId × Value → H} {w : World} {base : Nat} {spare : Nat → Bool} {held : Bool} {v : Value} {d : DataW H} {p : List MemPlace} {r : Reach} {b0 : Nat} (hv : Value.okWide Try.prog w r b0 51 v) (h : DataW.Trod enc Try.prog w base spare held 51 v d p) :
    ∃ (a : Option Addr) (n c : Nat) (l : List Nat), v = .slice a n c ∧ BN w a n c l := by
  obtain ⟨a, n, c, l, rfl, hl⟩ := open_kind (k := .u8) Try.underlying51 Try.underlying5 (by kernel_rfl) hv h
  refine ⟨a, n, c, l.map (fun x => x.1.toNat), rfl, by rw [List.length_map]; exact hl.1, Nat.le_trans hl.2.1 hl.2.2.1, fun i x hx => ?_, fun x hx => ?_⟩
  · rw [List.getElem?_map, Option.map_eq_some_iff] at hx
    obtain ⟨y, hy, rfl⟩ := hx
    obtain ⟨b, o, ha, hb, hr⟩ := SL.elem (f := kC .u8) (n := 1) (fun _ => rfl) hl hy
    refine ⟨b, o, ha, hb, ?_⟩
    rw [Nat.mul_one] at hr
    have := (rowOf_some.1 hr).2 0 (.int .u8 y.1) rfl
    rw [Nat.add_zero] at this
    rw [this]
    have hb := bounds_u8 y.2
    congr 2; omega
  · obtain ⟨y, hy, rfl⟩ := List.mem_map.1 hx
    have hb := bounds_u8 y.2
    omega

end Go.Proofs.Ytghjpbmemogioaa
