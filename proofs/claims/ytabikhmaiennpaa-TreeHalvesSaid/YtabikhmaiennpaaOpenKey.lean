/- Readings opened: keys, slices of rows. No program. -/
import Derived.Test.YtabikhmaiennpaaBase
import Derived.Deep.Slices
import Derived.OpenShut
import Derived.ProofKit
namespace Go.Proofs.Ytabikhmaiennpaa
set_option maxRecDepth 100000
open Go.RowKit Go.ChangeShapes Go.WideShapes Go.Deep
section
variable {H : Type} {enc : TypeId × Value → H} {P : Program} {w : World} {base : Nat} {spare : Nat → Bool} {held : Bool}

def byteOf' (v : Value) : UInt8 := match v with | .int _ n => n.toNat.toUInt8 | _ => 0

theorem trod_key {t e : TypeId} {fuel : Nat} {cs : List Value} {x : DataW H × List MemPlace} (ht : P.underlying t = some (.array 32 e)) (he : P.underlying e = some (.int .u8)) (hc : P.cellsOf e = 1) (hct : P.cellsOf t = 32)
    (h : DataW.trod enc P w base spare held fuel t cs = some x) : ∃ k : Key, cs = keyC k := by
  obtain ⟨xs, m, _, _, hl, hx, hi⟩ := DataW.trod_array ht h
  rw [hct] at hl
  refine ⟨⟨cs.map byteOf', by simp [hl]⟩, ?_⟩
  unfold keyC
  simp only [List.map_map]
  refine List.ext_getElem? fun i => ?_
  simp only [List.getElem?_map]
  by_cases hlt : i < 32
  · have h1 := hi i hlt
    rw [hc, Nat.mul_one] at h1
    have hxi : xs[i]? = some (xs[i]'(by omega)) := List.getElem?_eq_getElem (by omega)
    rw [hxi] at h1
    obtain ⟨n, hn, _, hwf⟩ := DataW.trod_int he h1
    have hci : cs[i]? = some (cs[i]'(by omega)) := List.getElem?_eq_getElem (by omega)
    rw [List.drop_eq_getElem_cons (by omega)] at hn
    simp only [List.take_succ_cons, List.take_zero, List.cons.injEq, and_true] at hn
    rw [hci, hn]
    have hb := bounds_u8 hwf
    simp [byteOf', Extern.Stop.cell]
    omega
  · rw [List.getElem?_eq_none (by omega)]; rfl

/-- A slice of rows: it lies in the world w, and its elements are l. -/
def SlHas {α : Type} (w : World) (a : Option Addr) (len cap n : Nat) (f : α → List Value) (l : List α) : Prop :=
  len = l.length ∧ len ≤ cap ∧ cap ≤ maxLen ∧ (a = none → cap = 0) ∧
    ∀ i x, l[i]? = some x → ∃ b o, a = some ⟨b, o, none⟩ ∧ b < w.heap.size ∧ rowOf w b (o + i * n) n = some (f x)

theorem row_of_cells {a : Addr} {n : Nat} {cs : List Value} (hn : 0 < n) (h : w.cells? base a n = some cs) : ∃ b o, a = ⟨b, o, none⟩ ∧ b < w.heap.size ∧ rowOf w b o n = some cs := by
  obtain ⟨_, hl, hat⟩ := World.cells?_some h
  have h0 := hat 0 hn
  have hsome : w.cell? a = some (cs[0]'(by omega)) := by
    have e : a.add 0 = a := rfl
    rw [e] at h0
    rw [h0, List.getElem?_eq_getElem (by omega)]
  have hb := block_lt_of_cell hsome
  have hs : a.spot = none := by
    cases hsp : a.spot with
    | none => rfl
    | some s => simp [World.cell?, hsp] at hsome; split at hsome <;> simp at hsome
  obtain ⟨b, o, s⟩ := a
  simp only at hs
  subst hs
  refine ⟨b, o, rfl, hb, rowOf_some.2 ⟨hl, fun j v hv => ?_⟩⟩
  have hj : j < cs.length := (List.getElem?_eq_some_iff.1 hv).1
  have := hat j (by omega)
  rw [Addr.add_mid] at this
  rw [this, hv]

theorem trod_slice_rows {α : Type} {t e : TypeId} {fuel n : Nat} {cs : List Value} {x : DataW H × List MemPlace} (f : α → List Value) (hn : 0 < n) (ht : P.underlying t = some (.slice e)) (hc : P.cellsOf e = n)
    (hel : ∀ (m : Nat) (cs : List Value) (x : DataW H × List MemPlace), DataW.trod enc P w base spare held m e cs = some x → ∃ y : α, cs = f y)
    (h : DataW.trod enc P w base spare held fuel t cs = some x) : ∃ (a : Option Addr) (len cap : Nat) (l : List α), cs = [.slice a len cap] ∧ SlHas w a len cap n f l := by
  rcases open_slice ht h with ⟨rfl, _⟩ | ⟨a, len, cap, m, k, D, Pl, rfl, _, hl, hm, hmm, _, hi⟩
  · exact ⟨none, 0, 0, [], rfl, rfl, Nat.le_refl _, by unfold maxLen; omega, fun _ => rfl, fun i x h => by simp at h⟩
  · have hlm : len ≤ m := by rw [hmm]; split <;> omega
    by_cases hE : len = 0
    · subst hE
      exact ⟨some a, 0, cap, [], rfl, rfl, hl, hm, (fun h => nomatch h), fun i x h => by simp at h⟩
    · have hne : Nonempty α := by
        obtain ⟨cs', _, h2⟩ := hi 0 (by omega)
        obtain ⟨y, _⟩ := hel _ _ _ h2
        exact ⟨y⟩
      have : Inhabited α := ⟨Classical.choice hne⟩
      obtain ⟨Y, hY⟩ := choose_lt (α := α) (n := len) (p := fun i y => w.cells? base (a.add (i * n)) n = some (f y)) (fun i hlt => by
        obtain ⟨cs', h1, h2⟩ := hi i (by omega)
        obtain ⟨y, rfl⟩ := hel _ _ _ h2
        rw [hc] at h1
        exact ⟨y, h1⟩)
      refine ⟨some a, len, cap, (List.range len).map Y, rfl, by simp, hl, hm, (fun h => nomatch h), fun i y hy => ?_⟩
      have hi' : i < len := by
        have := (List.getElem?_eq_some_iff.1 hy).1
        simpa using this
      have hy' : Y i = y := by simpa [List.getElem?_map, List.getElem?_range, hi'] using hy
      obtain ⟨b, o, e0, hb, h0⟩ := row_of_cells hn (hY 0 (by omega))
      have e0' : a = ⟨b, o, none⟩ := by simpa [Addr.add] using e0
      subst e0'
      refine ⟨b, o, rfl, hb, ?_⟩
      obtain ⟨b', o', e1, _, h1⟩ := row_of_cells hn (hY i hi')
      rw [Addr.add_mid] at e1
      injection e1 with e2 e3
      subst e2 e3
      rw [h1, hy']
end
end Go.Proofs.Ytabikhmaiennpaa
