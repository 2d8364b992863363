/- Slices of keys cut in two; a tree put over a tree. -/
import Derived.Test.YtabikhmaiennpaaTreeQ
import Derived.Test.YtabikhmaiennpaaTreeParts
namespace Go.Proofs.Ytabikhmaiennpaa
open Go.RowKit
set_option linter.unusedVariables false
set_option linter.unusedSimpArgs false
set_option maxRecDepth 100000
section
variable {α : Type} {f : α → List Value} {n : Nat} {w : World} {a : Option Addr} {len cap : Nat} {l : List α}
theorem SL.takes (hf : ∀ x, (f x).length = n) (h : SL f n w a len cap l) (i : Nat) (hi : i ≤ len) : SL f n w a i cap (l.take i) := by
  obtain ⟨h1, h2, h3, h4, h5⟩ := h
  refine ⟨by rw [List.length_take]; omega, by omega, h3, h4, fun hne => ?_⟩
  obtain ⟨b, o, e, hb, hr⟩ := h5 (fun e => hne (by rw [e]; exact List.take_nil))
  refine ⟨b, o, e, hb, ?_⟩
  have hsub := rowOf_sub hr 0 ((l.take i).length * n) (by rw [Nat.zero_add]; exact Nat.mul_le_mul_right _ (by rw [List.length_take]; omega))
  rw [Nat.add_zero] at hsub
  rw [hsub]
  congr 1
  rw [List.drop_zero]
  have e : rows f l = rows f (l.take i) ++ rows f (l.drop i) := by rw [← rows_append, List.take_append_drop]
  rw [e, List.take_append_of_le_length (by rw [rows_length hf]; exact Nat.le_refl _), List.take_of_length_le (by rw [rows_length hf]; exact Nat.le_refl _)]
theorem SL.drops (hf : ∀ x, (f x).length = n) (h : SL f n w a len cap l) (i : Nat) (hi : i ≤ len) (hc : i ≠ cap) : SL f n w (a.map fun x => x.add (i * n)) (len - i) (cap - i) (l.drop i) := by
  by_cases hlt : i < len
  · exact h.cut hf i hlt (cap - i) (by have := h.2.1; omega) (by have := h.2.2.1; omega)
  · obtain ⟨h1, h2, h3, h4, h5⟩ := h
    have he : l.drop i = [] := List.drop_of_length_le (by omega)
    rw [he]
    refine ⟨by simp; omega, by omega, by omega, fun ha => ?_, fun hne => absurd rfl hne⟩
    cases a with
    | none => have := h4 rfl; omega
    | some x => cases ha
theorem SL.drops0 (h : SL f n w a len cap l) (hc : len = cap) : SL f n w a (len - cap) 0 (l.drop cap) := by
  have he : l.drop cap = [] := List.drop_of_length_le (by rw [← h.1]; omega)
  rw [he]
  exact ⟨by simp; omega, by omega, Nat.zero_le _, fun _ => rfl, fun hne => absurd rfl hne⟩
end

theorem TB.putAll {w : World} {b : Nat} {t : TreeV} (h : TB w b t) (t' : TreeV) : TB (w.setCells b 0 (treeC t')) b t' := by
  have hlt := h.lt
  have := setCells_append b (treeC t') w [] (treeC t) [] _ (0, 0) (by rw [treeC_length, treeC_length]) (by unfold TB at h; simpa using h)
  rw [List.length_nil] at this
  unfold TB
  rw [this]
  simp [hlt]
def sliceHiTo (P : Program) (w : World) (u v : Value) : Result Next := (do pure (.value (← Instr.sliceAt 33 u none (some v) none)) : Sem Next).run P w
def sliceLoTo (P : Program) (w : World) (u v : Value) : Result Next := (do pure (.value (← Instr.sliceAt 33 u (some v) none none)) : Sem Next).run P w
theorem slice_hi (ρ : Operand → Value) (dst : Option Tmp) (x y : Operand) (t : TypeId) (pos : String) (after : Array Edge) (guard : Option (Nat × Bool)) (w : World) :
    (execOp ρ ⟨dst, .slice 33 x none (some y) none, t, pos, after, guard⟩).run Try.prog w = sliceHiTo Try.prog w (ρ x) (ρ y) := by
  simp [execOp, sliceHiTo]
theorem slice_lo (ρ : Operand → Value) (dst : Option Tmp) (x y : Operand) (t : TypeId) (pos : String) (after : Array Edge) (guard : Option (Nat × Bool)) (w : World) :
    (execOp ρ ⟨dst, .slice 33 x (some y) none none, t, pos, after, guard⟩).run Try.prog w = sliceLoTo Try.prog w (ρ x) (ρ y) := by
  simp [execOp, sliceLoTo]
theorem run_bound (i n : Nat) (h : i ≤ n) (c : BoundsCode) (w : World) : (Instr.sliceBound (.int .i64 i) n c).run Try.prog w = .ok i w := by
  have : (0 : Int) ≤ i ∧ (i : Int) ≤ n := by omega
  simp [Instr.sliceBound, asIntOf, this, h]
theorem sliceHi_run (a : Option Addr) (len cap i : Nat) (h : i ≤ cap) (w : World) : sliceHiTo Try.prog w (.slice a len cap) (.int .i64 i) = .ok (.value (.slice a i cap)) w := by
  have hm : (a.map fun x => x.add 0) = a := by cases a <;> rfl
  unfold sliceHiTo
  simp only [Instr.sliceAt, Instr.slice, Instr.sliceBounds, Sem.run_bind, run_underlying Try.underlying33, Result.andThen_ok, run_bound i cap h, Sem.run_pure, sizeOf_key', Option.isSome, if_true]
  try simp [hm]
theorem sliceLo_run (a : Option Addr) (len cap i : Nat) (h : i ≤ len) (w : World) : sliceLoTo Try.prog w (.slice a len cap) (.int .i64 i) = .ok (.value (.slice (if cap = i then a else a.map (·.add (i * 32))) (len - i) (cap - i))) w := by
  unfold sliceLoTo
  simp only [Instr.sliceAt, Instr.slice, Instr.sliceBounds, Sem.run_bind, run_underlying Try.underlying33, Result.andThen_ok, run_bound i len h, Sem.run_pure, sizeOf_key', Option.isSome]
  try simp
theorem KL.hi {w : World} {a : Option Addr} {cap : Nat} {l : List Key} (h : KL w a cap l) (i : Nat) (hi : i ≤ l.length) :
    (∀ w', sliceHiTo Try.prog w' (.slice a l.length cap) (.int .i64 i) = .ok (.value (.slice a (l.take i).length cap)) w') ∧ KL w a cap (l.take i) := by
  have hl : (l.take i).length = i := by rw [List.length_take]; omega
  refine ⟨fun w' => ?_, ?_⟩
  · rw [hl]; exact sliceHi_run a l.length cap i (by have := h.2.1; omega) w'
  · have := SL.takes keyC_length h i hi
    show SL keyC 32 w a (l.take i).length cap (l.take i)
    rw [hl]; exact this
theorem KL.lo {w : World} {a : Option Addr} {cap : Nat} {l : List Key} (h : KL w a cap l) (i : Nat) (hi : i ≤ l.length) :
    ∃ ya yc, (∀ w', sliceLoTo Try.prog w' (.slice a l.length cap) (.int .i64 i) = .ok (.value (.slice ya (l.drop i).length yc)) w') ∧ KL w ya yc (l.drop i) := by
  have hl : (l.drop i).length = l.length - i := List.length_drop
  have hcap := h.2.1
  by_cases hc : i = cap
  · refine ⟨a, 0, fun w' => ?_, ?_⟩
    · rw [hl, sliceLo_run a l.length cap i hi w', if_pos hc.symm, hc, Nat.sub_self]
    · have := SL.drops0 h (by omega)
      show SL keyC 32 w a (l.drop i).length 0 (l.drop i)
      rw [hl, hc]; exact this
  · refine ⟨a.map fun x => x.add (i * 32), cap - i, fun w' => ?_, ?_⟩
    · rw [hl, sliceLo_run a l.length cap i hi w', if_neg (fun e => hc e.symm)]
    · have := SL.drops keyC_length h i hi hc
      show SL keyC 32 w _ (l.drop i).length (cap - i) (l.drop i)
      rw [hl]; exact this
theorem putsT_append (t : TreeV) (l m : List Key) : putsT t (l ++ m) = putsT (putsT t l) m := by unfold putsT; rw [List.foldl_append]
theorem putsT_halves (t : TreeV) (l : List Key) (i : Nat) : putsT (putsT t (l.take i)) (l.drop i) = putsT t l := by rw [← putsT_append, List.take_append_drop]
end Go.Proofs.Ytabikhmaiennpaa
