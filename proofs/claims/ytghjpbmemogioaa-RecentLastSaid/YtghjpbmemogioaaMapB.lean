/- A map[uint8]bool that the call makes: which keys it has. -/
import Derived.Test.YtghjpbmemogioaaKey1
import Derived.Test.YtghjpbmemogioaaBase
import Derived.Maps.OwnSet
namespace Go.Proofs.Ytghjpbmemogioaa
set_option maxRecDepth 100000
open Go.RowKit Go.Maps
set_option linter.unusedVariables false

theorem plainElem_bool_inv {H : Type} {P : Program} {e : TypeId} (he : P.underlying e = some .bool) {v : Value} {z : DataW H × List MemPlace} (h : plainElem P e v = some z) : ∃ x, v = .bool x ∧ z = (.lit (.bool x), []) := by
  unfold plainElem at h
  rw [he] at h
  cases v <;> simp at h
  exact ⟨_, rfl, h.symm⟩
theorem keyed_u8 : Keyed Try.prog 5 := int_keyed Try.underlying5
theorem key_u8 (x : Nat) (hx : x < 256) : keyOf Try.prog 5 (.int .u8 (x : Int)) = some (.int .u8 (x : Int)) := keyOf_int_mk Try.underlying5 (by simp only [Lit.wf, Bool.and_eq_true, decide_eq_true_eq]; exact ⟨by show (0 : Int) ≤ x; omega, by show (x : Int) ≤ 255; omega⟩)
/-- Block b is a map in which just the keys S are true. -/
def MB (w : World) (b : Nat) (S : List Nat) : Prop := ∃ D : DataW Unit, w.ownsMap Try.prog 5 (plainElem Try.prog 4) b S.length D ∧ Tidy D ∧ Maps.size D = S.length ∧ ∀ x : Nat, x < 256 → D.atKey (.int .u8 (x : Int)) (.lit (.bool false)) = .lit (.bool (decide (x ∈ S))) ∧ Maps.has D (.int .u8 (x : Int)) = decide (x ∈ S)
theorem MB.made (w : World) : MB (w.alloc (.map #[] 0)) w.heap.size [] :=
  ⟨.map [], World.ownsMap_made _ _ _ _, tidy_empty, rfl, fun x hx => ⟨rfl, rfl⟩⟩
theorem MB.congr {w w' : World} {b : Nat} {S : List Nat} (h : MB w b S) (hb : w'.heap[b]? = w.heap[b]?) : MB w' b S := by
  obtain ⟨D, ⟨es, clock, h1, h2⟩, h3⟩ := h
  exact ⟨D, ⟨es, clock, hb.trans h1, h2⟩, h3⟩
theorem MB.lt {w : World} {b : Nat} {S : List Nat} (h : MB w b S) : b < w.heap.size := by obtain ⟨D, h1, _⟩ := h; exact h1.lt
theorem zero_bool (w : World) : (zeroValue 4).run Try.prog w = .ok (.bool false) w := by kernel_rfl
theorem MB.look {w : World} {b : Nat} {S : List Nat} (h : MB w b S) (x : Nat) (hx : x < 256) : (Instr.lookup 52 (.map (some b)) (.int .u8 (x : Int)) false).run Try.prog w = .ok (.bool (decide (x ∈ S))) w := by
  obtain ⟨D, h1, h2, h3, h4⟩ := h
  obtain ⟨v, ps, hr, hv⟩ := h1.lookup keyed_u8 Try.underlying52 (zero_bool w) (plainElem_bool Try.underlying4 false) (key_u8 x hx)
  rw [(h4 x hx).1] at hv
  obtain ⟨y, rfl, hz⟩ := plainElem_bool_inv Try.underlying4 hv
  simp only [Prod.mk.injEq, DataW.lit.injEq, Lit.bool.injEq] at hz
  rw [hr, ← hz.1]
theorem MB.len {w : World} {b : Nat} {S : List Nat} (h : MB w b S) (ty : TypeId) : (Builtin.len_ #[52] ty #[.map (some b)]).run Try.prog w = .ok (.int .i64 (S.length : Nat)) w := by
  obtain ⟨D, h1, h2, h3, h4⟩ := h
  rw [h1.len Try.underlying52 ty, h3]
theorem MB.put {w : World} {b : Nat} {S : List Nat} (h : MB w b S) (x : Nat) (hx : x < 256) (hS : x ∉ S) (hl : S.length ≤ 100) :
    ∃ w', (Instr.mapUpdate 52 (.map (some b)) (.int .u8 (x : Int)) (.bool true)).run Try.prog w = .ok () w' ∧ MB w' b (S ++ [x]) ∧ w.grownBy w' (some b) := by
  obtain ⟨D, h1, h2, h3, h4⟩ := h
  obtain ⟨w', hr, ho, hg⟩ := h1.update keyed_u8 Try.underlying52 (by unfold maxLen; omega) (key_u8 x hx) (plainElem_bool (H := Unit) Try.underlying4 true)
  have hK : WideAt.IsKeyLit (.int .u8 (x : Int)) := keyed_u8.key (key_u8 x hx)
  refine ⟨w', hr, ⟨_, by rw [List.length_append]; exact ho, h2.put hK _, ?_, fun y hy => ?_⟩, hg⟩
  · rw [size_put h2, (h4 x hx).2, if_neg (by simpa using hS), h3, List.length_append]; rfl
  · by_cases he : y = x
    · subst he
      rw [atKey_put_same h2.isMap hK, has_put_same h2.isMap hK]
      simp
    · have hne : (Lit.int .u8 (y : Int)) ≠ .int .u8 (x : Int) := fun e => he (by injection e with _ e; omega)
      rw [atKey_put_other hne, has_put_other hne, (h4 y hy).1, (h4 y hy).2]
      simp [he]
end Go.Proofs.Ytghjpbmemogioaa
