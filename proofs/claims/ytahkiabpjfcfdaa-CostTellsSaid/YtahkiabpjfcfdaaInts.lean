/- Slices of numbers in memory, and of the call's own. -/
import Derived.Test.YtahkiabpjfcfdaaRows
import Derived.Test.YtahkiabpjfcfdaaOwnV
import Derived.Test.YtahkiabpjfcfdaaBox
namespace Go.Proofs.Ytahkiabpjfcfdaa
set_option maxRecDepth 100000
open Go.RowKit
set_option linter.unusedVariables false
set_option linter.unusedSimpArgs false

/-- The cell of a number. -/
def iC (x : Int) : List Value := [.int .i64 x]
theorem iC_length (x : Int) : (iC x).length = 1 := rfl
def I64 (x : Int) : Prop := -9223372036854775808 ≤ x ∧ x ≤ 9223372036854775807
/-- A slice of numbers in memory. -/
def IL (w : World) (a : Option Addr) (n c : Nat) (l : List Int) : Prop := SL iC 1 w a n c l ∧ ∀ x ∈ l, I64 x
theorem IL.below {w w' : World} {a : Option Addr} {n c : Nat} {l : List Int} (h : IL w a n c l) (hb : Below w.heap.size w w') : IL w' a n c l := ⟨h.1.below hb, h.2⟩
theorem IL.at {w : World} {a : Option Addr} {n c : Nat} {l : List Int} (h : IL w a n c l) {i : Nat} {x : Int} (hx : l[i]? = some x) : ∃ b o, a = some ⟨b, o, none⟩ ∧ b < w.heap.size ∧ w.cell? ⟨b, o + i, none⟩ = some (.int .i64 x) := by
  obtain ⟨b, o, ha, hb, hr⟩ := SL.elem iC_length h.1 hx
  refine ⟨b, o, ha, hb, ?_⟩
  rw [Nat.mul_one] at hr
  have := (rowOf_some.1 hr).2 0 (.int .i64 x) rfl
  rwa [Nat.add_zero] at this

/-! ### Slices of numbers of the call's own -/
theorem info_i64 : ∃ i, Try.prog.info? 2 = some i ∧ i.size = 1 ∧ i.bytes = 8 ∧ i.zero = some (.int .i64 0) := by
  have h : (Try.prog.info? 2).map (fun i => (i.size, i.bytes, i.zero)) = some (1, 8, some (.int .i64 0)) := by kernel_rfl
  obtain ⟨i, hi, h'⟩ := Option.map_eq_some_iff.1 h
  simp only [Prod.mk.injEq] at h'
  exact ⟨i, hi, h'.1, h'.2.1, h'.2.2⟩
theorem append_i64 (ρ : Operand → Value) (dst : Option Tmp) (x y : Operand) (ty : TypeId) (pos : String) (after : Array Edge) (guard : Option (Nat × Bool)) (w : World) :
    (execOp ρ ⟨dst, .call { callee := .builtin .append, args := #[x, y], argTypes := #[25, 25] }, ty, pos, after, guard⟩).run Try.prog w = appTo Try.prog 25 ty w (ρ x) (ρ y) :=
  exec_append _ ty ρ dst x y pos after guard w
abbrev OwnI (w : World) (base : Nat) (v : Value) (l : List Int) : Prop := OwnV w base 2 v (rows iC l)
theorem rowsI_length (l : List Int) : (rows iC l).length = l.length := by rw [rows_length iC_length]; omega
theorem rowsI_one (l : List Int) : ∀ u ∈ rows iC l, u.oneCell' = true := by
  induction l with
  | nil => rw [rows_nil]; intro u hu; simp at hu
  | cons x l ih =>
    rw [rows_cons]
    intro u hu
    rcases List.mem_append.1 hu with h | h
    · simp [iC] at h; subst h; rfl
    · exact ih u h
theorem OwnI.empty (w : World) (base : Nat) (b : Nat) (hb : b = w.heap.size) (h : base ≤ b) : OwnI (w.alloc (.cells #[] 2)) base (.slice (some ⟨b, 0, none⟩) 0 0) [] := by
  show OwnV _ _ _ _ (rows iC [])
  rw [rows_nil]
  exact OwnV.empty w base _ b hb h
theorem app_i64 {w : World} {base : Nat} {v : Value} {l : List Int} {ty : TypeId} (hown : OwnI w base v l) (hbase : base ≤ w.heap.size) (x : Int) (hlen : l.length + 1 ≤ 2000000) :
    ∃ g c' w', appTo Try.prog 25 ty (w.alloc (.cells #[.int .i64 x] 2)) v (.slice (some ⟨w.heap.size, 0, none⟩) 1 1) = .ok (.value (.slice (some ⟨g, 0, none⟩) (l.length + 1) c')) w' ∧ OwnI w' base (.slice (some ⟨g, 0, none⟩) (l.length + 1) c') (l ++ [x]) ∧ Below base w w' ∧ w.heap.size ≤ w'.heap.size := by
  obtain ⟨i, hi, hs, hb, hz⟩ := info_i64
  obtain ⟨g, c', w', h1, h2, h3, h4⟩ := appTo_val' (ty := ty) Try.underlying25 hi hs hb hz rfl (by omega) hown hbase (.int .i64 x) rfl (by rw [rowsI_length]; exact hlen)
  rw [rowsI_length] at h1 h2
  refine ⟨g, c', w', h1, ?_, h3, h4⟩
  show OwnV _ _ _ _ (rows iC (l ++ [x]))
  rw [rows_append, rows_one]
  exact h2
/-- An append of any numbers. -/
theorem app_i64s {w : World} {base : Nat} {u : Option Addr} {n0 c0 : Nat} {l : List Int} {ty : TypeId} (hown : OwnI w base (.slice u n0 c0) l) (hbase : base ≤ w.heap.size) (hu : n0 ≤ c0) (hn : u = none → c0 = 0) (hnl : n0 = l.length) (a : Option Addr) (n c : Nat) (m : List Int) (hm : IL w a n c m) (hlen : l.length + m.length ≤ 2000000) :
    ∃ u' n' c' w', appTo Try.prog 25 ty w (.slice u n0 c0) (.slice a n c) = .ok (.value (.slice u' n' c')) w' ∧ OwnI w' base (.slice u' n' c') (l ++ m) ∧ Below base w w' ∧ w.heap.size ≤ w'.heap.size ∧ n' = l.length + m.length ∧ n' ≤ c' ∧ (u' = none → c' = 0) := by
  obtain rfl := hm.1.1
  by_cases hne : m = []
  · subst hne
    refine ⟨u, n0, c0, w, appTo_none (n := 1) Try.underlying25 (fun _ => by kernel_rfl) u n0 c0 hu hn a c, by rw [List.append_nil]; exact hown, Below.refl _ _, Nat.le_refl _, by rw [hnl]; rfl, hu, hn⟩
  · obtain ⟨i, hi, hs, hb, hz⟩ := info_i64
    obtain ⟨b, o, rfl, hb', hr⟩ := hm.1.2.2.2.2 hne
    rw [Nat.mul_one] at hr
    have hpos : 0 < m.length := List.length_pos_iff.2 hne
    obtain ⟨g, c', w', h1, h2, h3, h4⟩ := appTo_vals (ty := ty) Try.underlying25 hi hs hb hz rfl (by omega) hown hbase b o c (rows iC m) (by rw [rowsI_length]; exact hr) (rowsI_one m) (by rw [rowsI_length]; exact hpos) (by rw [rowsI_length, rowsI_length]; exact hlen)
    rw [rowsI_length, rowsI_length] at h1 h2
    have hrow := h2.row
    refine ⟨_, _, _, w', h1, ?_, grown_below h3 hown.ownBlock_le hbase, h3.size, rfl, hrow.2.2.2.1, fun h => nomatch h⟩
    show OwnV _ _ _ _ (rows iC (l ++ m))
    rw [rows_append]
    exact h2
theorem OwnI.il {w : World} {base : Nat} {g n c : Nat} {l : List Int} (h : OwnI w base (.slice (some ⟨g, 0, none⟩) n c) l) (hI : ∀ x ∈ l, I64 x) : IL w (some ⟨g, 0, none⟩) n c l := by
  have hr := h.row
  rw [rowsI_length] at hr
  obtain ⟨rfl, _, hg, hc, hm, hrow⟩ := hr
  exact ⟨⟨rfl, hc, hm, (fun h => nomatch h), fun _ => ⟨g, 0, rfl, hg, by rw [Nat.mul_one]; exact hrow⟩⟩, hI⟩

end Go.Proofs.Ytahkiabpjfcfdaa
