/- Readings opened: slices of bytes as numbers. What a draw picks, plain. -/
import Derived.Test.YtahkiabpjfcfdaaOpenInts2
import Derived.Test.YtahkiabpjfcfdaaCost2
namespace Go.Proofs.Ytahkiabpjfcfdaa
set_option maxRecDepth 100000
open Go.RowKit Go.ChangeShapes Go.WideShapes Go.Deep
set_option linter.unusedVariables false

/-- A slice of bytes that came in, as numbers. -/
structure BN (w : World) (a : Option Addr) (n c : Nat) (l : List Nat) : Prop where
  len : n = l.length
  max : n ≤ maxLen
  at_ : ∀ (i x : Nat), l[i]? = some x → ∃ b o, a = some ⟨b, o, none⟩ ∧ b < w.heap.size ∧ w.cell? ⟨b, o + i, none⟩ = some (.int .u8 (x : Int))
  lt : ∀ x ∈ l, x < 256
theorem open_u8s {H : Type} {enc : TypeId × Value → H} {w : World} {base : Nat} {spare : Nat → Bool} {held : Bool} {v : Value} {d : DataW H} {p : List MemPlace} {r : Reach} {b0 : Nat} (hv : Value.okWide Try.prog w r b0 22 v) (h : DataW.Trod enc Try.prog w base spare held 22 v d p) :
    ∃ (a : Option Addr) (n c : Nat) (l : List Nat), v = .slice a n c ∧ BN w a n c l := by
  obtain ⟨a, n, c, l, rfl, hl⟩ := open_kind (k := .u8) Try.underlying22 Try.underlying5 (by kernel_rfl) hv h
  refine ⟨a, n, c, l.map (fun x => x.1.toNat), rfl, by rw [List.length_map]; exact hl.1, Nat.le_trans hl.2.1 hl.2.2.1, fun i x hx => ?_, fun x hx => ?_⟩
  · rw [List.getElem?_map, Option.map_eq_some_iff] at hx
    obtain ⟨y, hy, rfl⟩ := hx
    obtain ⟨b, o, ha, hb, hr⟩ := SL.elem (f := kC .u8) (n := 1) (fun _ => rfl) hl hy
    refine ⟨b, o, ha, hb, ?_⟩
    rw [Nat.mul_one] at hr
    have := (rowOf_some.1 hr).2 0 (.int .u8 y.1) rfl
    rw [Nat.add_zero] at this
    rw [this]
    have hb := bounds_u8 y.2
    congr 2; omega
  · obtain ⟨y, hy, rfl⟩ := List.mem_map.1 hx
    have hb := bounds_u8 y.2
    omega

/-! ### Plain -/
theorem take_sum_succ {l : List Int} {t : Nat} {x : Int} (h : l[t]? = some x) : (l.take (t + 1)).sum = (l.take t).sum + x := by
  rw [List.take_add_one, h, List.sum_append]; simp
theorem pickI_spec : ∀ {l : List Int} {d : Int}, okW l → 0 ≤ d → d < l.sum → pickI l d < l.length ∧ (l.take (pickI l d)).sum ≤ d ∧ d < (l.take (pickI l d + 1)).sum
  | [], d, _, h0, h => by simp at h; omega
  | w :: l, d, ho, h0, h => by
    have hw := ho w (by simp)
    rw [pickI]
    by_cases hd : d < w
    · rw [if_pos hd]
      refine ⟨by simp, by simpa using h0, by simpa using hd⟩
    · rw [if_neg hd]
      rw [List.sum_cons] at h
      obtain ⟨h1, h2, h3⟩ := pickI_spec (l := l) (d := d - w) (fun x hx => ho x (by simp [hx])) (by omega) (by omega)
      refine ⟨by rw [List.length_cons]; omega, ?_, ?_⟩
      · rw [Nat.add_comm 1, List.take_succ_cons, List.sum_cons]; omega
      · rw [Nat.add_comm 1, List.take_succ_cons, List.sum_cons]; omega
theorem take_sum_mono {l : List Int} (ho : okW l) {s t : Nat} (h : s ≤ t) : (l.take s).sum ≤ (l.take t).sum := by
  obtain ⟨k, rfl⟩ : ∃ k, t = s + k := ⟨t - s, by omega⟩
  induction k with
  | zero => exact Int.le_refl _
  | succ k ih =>
    refine Int.le_trans (ih (by omega)) ?_
    rw [← Nat.add_assoc]
    cases hx : l[s + k]? with
    | none => rw [List.take_of_length_le (by have := List.getElem?_eq_none_iff.1 hx; omega), List.take_of_length_le (by have := List.getElem?_eq_none_iff.1 hx; omega)]; exact Int.le_refl _
    | some x =>
      rw [take_sum_succ hx]
      have := ho x (List.mem_of_getElem? hx)
      omega
theorem pickI_mono {l : List Int} {d e : Int} (ho : okW l) (h0 : 0 ≤ d) (hde : d ≤ e) (he : e < l.sum) : pickI l d ≤ pickI l e := by
  obtain ⟨a1, a2, a3⟩ := pickI_spec ho h0 (by omega)
  obtain ⟨b1, b2, b3⟩ := pickI_spec ho (show 0 ≤ e by omega) he
  refine Nat.le_of_not_lt fun hlt => ?_
  have := take_sum_mono ho (show pickI l e + 1 ≤ pickI l d by omega)
  omega
theorem pickI_zero {l : List Int} (ho : okW l) : pickI l 0 = 0 := by
  cases l with
  | nil => rfl
  | cons w l => rw [pickI, if_pos]; have := ho w (by simp); omega
theorem pickI_last {l : List Int} (ho : okW l) (hne : l ≠ []) : pickI l (l.sum - 1) = l.length - 1 := by
  have hl : 0 < l.length := List.length_pos_iff.2 hne
  have hs := okW_sum ho
  obtain ⟨b1, b2, b3⟩ := pickI_spec ho (show 0 ≤ l.sum - 1 by omega) (show l.sum - 1 < l.sum by omega)
  refine Nat.le_antisymm (by omega) (Nat.le_of_not_lt fun hlt => ?_)
  obtain ⟨x, hx⟩ : ∃ x, l[l.length - 1]? = some x := ⟨_, List.getElem?_eq_getElem (by omega)⟩
  have h1 := take_sum_mono ho (show pickI l (l.sum - 1) + 1 ≤ l.length - 1 by omega)
  have h2 := take_sum_succ hx
  rw [show l.length - 1 + 1 = l.length from by omega, List.take_length] at h2
  have := ho x (List.mem_of_getElem? hx)
  omega
theorem okW_map {l : List Nat} {f : Nat → Int} (h : ∀ x ∈ l, 1 ≤ f x ∧ f x ≤ 1099511627776) : okW (l.map f) := fun y hy => by
  obtain ⟨x, hx, rfl⟩ := List.mem_map.1 hy
  exact h x hx

end Go.Proofs.Ytahkiabpjfcfdaa
