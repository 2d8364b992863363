/- Sums of money, plainly; slices of numbers that grow. -/
import Derived.Test.YtghjpbmemogioaaMoneyLaws
namespace Go.Proofs.Ytghjpbmemogioaa
open Go.RowKit
set_option linter.unusedVariables false
set_option linter.unusedSimpArgs false

def AllMay (l : List Int) : Prop := ∀ x ∈ l, 0 ≤ x ∧ x ≤ 2100000000000000
theorem sum_nonneg : ∀ {l : List Int}, AllMay l → 0 ≤ l.sum
  | [], _ => by simp
  | x :: l, h => by
    have h1 := h x (by simp)
    have h2 := sum_nonneg (l := l) fun y hy => h y (by simp [hy])
    rw [List.sum_cons]
    omega
theorem fold_some : ∀ {l : List Int} {n : Int}, 0 ≤ n → AllMay l → n + l.sum ≤ 2100000000000000 → l.foldlM addO n = some (n + l.sum)
  | [], n, h0, h, hs => by simp
  | x :: l, n, h0, h, hs => by
    have h1 := h x (by simp)
    have h3 : AllMay l := fun y hy => h y (by simp [hy])
    have h2 := sum_nonneg h3
    rw [List.sum_cons] at hs ⊢
    have e : addO n x = some (n + x) := by
      unfold addO sureO
      rw [if_pos h1]
      show (if _ then _ else _) = _
      rw [if_pos (by omega)]
    rw [List.foldlM_cons, e]
    show l.foldlM addO (n + x) = _
    rw [fold_some (by omega) h3 (by omega)]
    congr 1
    omega
theorem fold_all : ∀ {l : List Int} {n m : Int}, 0 ≤ n → l.foldlM addO n = some m → AllMay l ∧ m = n + l.sum
  | [], n, m, h0, h => by
    injection h with h
    exact ⟨fun x hx => by simp at hx, by simp [h]⟩
  | x :: l, n, m, h0, h => by
    rw [List.foldlM_cons] at h
    cases e : addO n x with
    | none => rw [e] at h; cases h
    | some z =>
      rw [e] at h
      have hr := addO_range e
      obtain ⟨h1, h2⟩ := fold_all hr.1 (show l.foldlM addO z = some m from h)
      unfold addO at e
      cases e1 : sureO x with
      | none => rw [e1] at e; cases e
      | some y =>
        obtain ⟨rfl, hy⟩ := sureO_some e1
        rw [e1] at e
        have hz := (sureO_some (show sureO (n + y) = some z from e)).1
        refine ⟨fun v hv => ?_, by rw [List.sum_cons]; omega⟩
        rcases List.mem_cons.1 hv with rfl | hv
        · exact hy
        · exact h1 v hv
theorem addedO_some_iff {l : List Int} {m : Int} : addedO l = some m ↔ AllMay l ∧ l.sum ≤ 2100000000000000 ∧ m = l.sum := by
  constructor
  · intro h
    have hr := addedO_range h
    obtain ⟨h1, h2⟩ := fold_all (Int.le_refl 0) h
    rw [Int.zero_add] at h2
    exact ⟨h1, by omega, h2⟩
  · rintro ⟨h1, h2, rfl⟩
    have := fold_some (Int.le_refl 0) h1 (by omega)
    rwa [Int.zero_add] at this
theorem addedO_append (l m : List Int) : addedO (l ++ m) = (addedO l).bind fun a => (addedO m).bind fun b => addV a b := by
  cases h1 : addedO l with
  | none =>
    cases h : addedO (l ++ m) with
    | none => rfl
    | some z =>
      obtain ⟨ha, hs, _⟩ := addedO_some_iff.1 h
      rw [List.sum_append] at hs
      have hm : AllMay m := fun x hx => ha x (by simp [hx])
      have hl : AllMay l := fun x hx => ha x (by simp [hx])
      have := sum_nonneg hm
      rw [addedO_some_iff.2 ⟨hl, by omega, rfl⟩] at h1
      cases h1
  | some a =>
    cases h2 : addedO m with
    | none =>
      cases h : addedO (l ++ m) with
      | none => rfl
      | some z =>
        obtain ⟨ha, hs, _⟩ := addedO_some_iff.1 h
        rw [List.sum_append] at hs
        have hm : AllMay m := fun x hx => ha x (by simp [hx])
        have hl : AllMay l := fun x hx => ha x (by simp [hx])
        have := sum_nonneg hl
        rw [addedO_some_iff.2 ⟨hm, by omega, rfl⟩] at h2
        cases h2
    | some b =>
      obtain ⟨hl, hsl, rfl⟩ := addedO_some_iff.1 h1
      obtain ⟨hm, hsm, rfl⟩ := addedO_some_iff.1 h2
      have nl := sum_nonneg hl
      have nm := sum_nonneg hm
      show addedO (l ++ m) = addV l.sum m.sum
      rw [addV_eq]
      have e1 : sureO l.sum = some l.sum := by unfold sureO; rw [if_pos (by omega)]
      have e2 : sureO m.sum = some m.sum := by unfold sureO; rw [if_pos (by omega)]
      rw [e1, e2]
      show _ = sureO (l.sum + m.sum)
      by_cases hs : l.sum + m.sum ≤ 2100000000000000
      · unfold sureO
        rw [if_pos (by omega)]
        exact addedO_some_iff.2 ⟨fun x hx => (List.mem_append.1 hx).elim (hl x) (hm x), by rw [List.sum_append]; exact hs, by rw [List.sum_append]⟩
      · unfold sureO
        rw [if_neg (by omega)]
        cases h : addedO (l ++ m) with
        | none => rfl
        | some z =>
          obtain ⟨_, h, _⟩ := addedO_some_iff.1 h
          rw [List.sum_append] at h
          omega
theorem addedO_reverse (l : List Int) : addedO l.reverse = addedO l := by
  cases h : addedO l with
  | some m =>
    obtain ⟨h1, h2, rfl⟩ := addedO_some_iff.1 h
    exact addedO_some_iff.2 ⟨fun x hx => h1 x (by simpa using hx), by rw [List.sum_reverse]; exact h2, by rw [List.sum_reverse]⟩
  | none =>
    cases h' : addedO l.reverse with
    | none => rfl
    | some m =>
      obtain ⟨h1, h2, rfl⟩ := addedO_some_iff.1 h'
      rw [List.sum_reverse] at h2
      rw [addedO_some_iff.2 ⟨fun x hx => h1 x (by simpa using hx), h2, rfl⟩] at h
      cases h
theorem addV_comm (a b : Int) : addV b a = addV a b := by
  rw [addV_eq, addV_eq]
  cases h1 : sureO a with
  | none => cases sureO b <;> rfl
  | some x =>
    cases h2 : sureO b with
    | none => rfl
    | some y => show sureO (y + x) = sureO (x + y); rw [Int.add_comm]

/-! ### Slices of numbers of the call's own -/
theorem info_i64 : ∃ i, Try.prog.info? 2 = some i ∧ i.size = 1 ∧ i.bytes = 8 ∧ i.zero = some (.int .i64 0) := by
  have h : (Try.prog.info? 2).map (fun i => (i.size, i.bytes, i.zero)) = some (1, 8, some (.int .i64 0)) := by kernel_rfl
  obtain ⟨i, hi, h'⟩ := Option.map_eq_some_iff.1 h
  simp only [Prod.mk.injEq] at h'
  exact ⟨i, hi, h'.1, h'.2.1, h'.2.2⟩
theorem append_i64 (ρ : Operand → Value) (dst : Option Tmp) (x y : Operand) (ty : TypeId) (pos : String) (after : Array Edge) (guard : Option (Nat × Bool)) (w : World) :
    (execOp ρ ⟨dst, .call { callee := .builtin .append, args := #[x, y], argTypes := #[22, 22] }, ty, pos, after, guard⟩).run Try.prog w = appTo Try.prog 22 ty w (ρ x) (ρ y) :=
  exec_append _ ty ρ dst x y pos after guard w
abbrev OwnI (w : World) (base : Nat) (v : Value) (l : List Int) : Prop := OwnV w base 2 v (rows iC l)
theorem rowsI_length (l : List Int) : (rows iC l).length = l.length := by rw [rows_length iC_length]; omega
theorem rowsI_one (l : List Int) : ∀ u ∈ rows iC l, u.oneCell' = true := by
  induction l with
  | nil => rw [rows_nil]; intro u hu; simp at hu
  | cons x l ih =>
    rw [rows_cons]
    intro u hu
    rcases List.mem_append.1 hu with h | h
    · simp [iC] at h; subst h; rfl
    · exact ih u h
theorem OwnI.empty (w : World) (base : Nat) (b : Nat) (hb : b = w.heap.size) (h : base ≤ b) : OwnI (w.alloc (.cells #[] 2)) base (.slice (some ⟨b, 0, none⟩) 0 0) [] := by
  show OwnV _ _ _ _ (rows iC [])
  rw [rows_nil]
  exact OwnV.empty w base _ b hb h
theorem app_i64 {w : World} {base : Nat} {v : Value} {l : List Int} {ty : TypeId} (hown : OwnI w base v l) (hbase : base ≤ w.heap.size) (x : Int) (hlen : l.length + 1 ≤ 2000000) :
    ∃ g c' w', appTo Try.prog 22 ty (w.alloc (.cells #[.int .i64 x] 2)) v (.slice (some ⟨w.heap.size, 0, none⟩) 1 1) = .ok (.value (.slice (some ⟨g, 0, none⟩) (l.length + 1) c')) w' ∧ OwnI w' base (.slice (some ⟨g, 0, none⟩) (l.length + 1) c') (l ++ [x]) ∧ Below base w w' ∧ w.heap.size ≤ w'.heap.size := by
  obtain ⟨i, hi, hs, hb, hz⟩ := info_i64
  obtain ⟨g, c', w', h1, h2, h3, h4⟩ := appTo_val' (ty := ty) Try.underlying22 hi hs hb hz rfl (by omega) hown hbase (.int .i64 x) rfl (by rw [rowsI_length]; exact hlen)
  rw [rowsI_length] at h1 h2
  refine ⟨g, c', w', h1, ?_, h3, h4⟩
  show OwnV _ _ _ _ (rows iC (l ++ [x]))
  rw [rows_append, rows_one]
  exact h2
/-- An append of any numbers. -/
theorem app_i64s {w : World} {base : Nat} {u : Option Addr} {n0 c0 : Nat} {l : List Int} {ty : TypeId} (hown : OwnI w base (.slice u n0 c0) l) (hbase : base ≤ w.heap.size) (hu : n0 ≤ c0) (hn : u = none → c0 = 0) (hnl : n0 = l.length) (a : Option Addr) (n c : Nat) (m : List Int) (hm : IL w a n c m) (hlen : l.length + m.length ≤ 2000000) :
    ∃ u' n' c' w', appTo Try.prog 22 ty w (.slice u n0 c0) (.slice a n c) = .ok (.value (.slice u' n' c')) w' ∧ OwnI w' base (.slice u' n' c') (l ++ m) ∧ Below base w w' ∧ w.heap.size ≤ w'.heap.size ∧ n' = l.length + m.length ∧ n' ≤ c' ∧ (u' = none → c' = 0) := by
  obtain rfl := hm.1.1
  by_cases hne : m = []
  · subst hne
    refine ⟨u, n0, c0, w, appTo_none (n := 1) Try.underlying22 (fun _ => by kernel_rfl) u n0 c0 hu hn a c, by rw [List.append_nil]; exact hown, Below.refl _ _, Nat.le_refl _, by rw [hnl]; rfl, hu, hn⟩
  · obtain ⟨i, hi, hs, hb, hz⟩ := info_i64
    obtain ⟨b, o, rfl, hb', hr⟩ := hm.1.2.2.2.2 hne
    rw [Nat.mul_one] at hr
    have hpos : 0 < m.length := List.length_pos_iff.2 hne
    obtain ⟨g, c', w', h1, h2, h3, h4⟩ := appTo_vals (ty := ty) Try.underlying22 hi hs hb hz rfl (by omega) hown hbase b o c (rows iC m) (by rw [rowsI_length]; exact hr) (rowsI_one m) (by rw [rowsI_length]; exact hpos) (by rw [rowsI_length, rowsI_length]; exact hlen)
    rw [rowsI_length, rowsI_length] at h1 h2
    have hrow := h2.row
    refine ⟨_, _, _, w', h1, ?_, grown_below h3 hown.ownBlock_le hbase, h3.size, rfl, hrow.2.2.2.1, fun h => nomatch h⟩
    show OwnV _ _ _ _ (rows iC (l ++ m))
    rw [rows_append]
    exact h2
theorem OwnI.il {w : World} {base : Nat} {g n c : Nat} {l : List Int} (h : OwnI w base (.slice (some ⟨g, 0, none⟩) n c) l) (hI : ∀ x ∈ l, I64 x) : IL w (some ⟨g, 0, none⟩) n c l := by
  have hr := h.row
  rw [rowsI_length] at hr
  obtain ⟨rfl, _, hg, hc, hm, hrow⟩ := hr
  exact ⟨⟨rfl, hc, hm, (fun h => nomatch h), fun _ => ⟨g, 0, rfl, hg, by rw [Nat.mul_one]; exact hrow⟩⟩, hI⟩

end Go.Proofs.Ytghjpbmemogioaa
