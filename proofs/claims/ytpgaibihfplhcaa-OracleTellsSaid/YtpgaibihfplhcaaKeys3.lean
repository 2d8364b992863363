/- Slices of keys of the call's own: more. -/
import Derived.Test.YtpgaibihfplhcaaKeys2
namespace Go.Proofs.Ytpgaibihfplhcaa
open Go.RowKit
set_option linter.unusedVariables false

theorem Own.new {α : Type} {f : α → List Value} {n : Nat} (hf : ∀ x, (f x).length = n) (w : World) (base : Nat) (l : List α) (t : TypeId) (hb : base ≤ w.heap.size) (hm : l.length ≤ maxLen) :
    Own f n t (w.alloc (.cells (rows f l).toArray t)) base (.slice (some ⟨w.heap.size, 0, none⟩) l.length l.length) l := by
  refine ⟨rows_length hf l, .inr ⟨w.heap.size, l.length, (rows f l).toArray, rfl, hb, heap_alloc_new w _, Nat.le_refl _, hm, by simp [rows_length hf l], ?_⟩⟩
  rw [List.take_of_length_le (by simp [rows_length hf l])]
theorem SL.grown {α : Type} {f : α → List Value} {n : Nat} {w w' : World} {row : Option Nat} {a : Option Addr} {len cap : Nat} {l : List α} (h : SL f n w a len cap l) (hg : w.grownBy w' row) (ha : ∀ x, a = some x → some x.block ≠ row) : SL f n w' a len cap l := by
  obtain ⟨h1, h2, h3, h4, h5⟩ := h
  refine ⟨h1, h2, h3, h4, fun hne => ?_⟩
  obtain ⟨b, o, e, hb', hr⟩ := h5 hne
  exact ⟨b, o, e, Nat.lt_of_lt_of_le hb' hg.size, by rw [rowOf_congr (hg.block b hb' (ha _ e))]; exact hr⟩
theorem Own.setBelow {α : Type} {f : α → List Value} {n : Nat} {e : TypeId} {w : World} {base : Nat} {v : Value} {l : List α} (h : Own f n e w base v l) {b o : Nat} (hb : b < base) (u : Value) : Own f n e (w.setCell ⟨b, o, none⟩ u) base v l :=
  h.congr fun k hk _ => Below.heap_setCell _ _ _ _ (by show k ≠ b; omega)
theorem app_k1g {w : World} {base : Nat} {u : Option Addr} {n0 c0 : Nat} {l : List Key} {ty : TypeId} (hown : KOwn w base (.slice u n0 c0) l) (hbase : base ≤ w.heap.size) (x : Key) (hlen : l.length + 1 ≤ 2000000) :
    ∃ g c' w', appTo Try.prog 24 ty (w.alloc (.cells (keyC x).toArray 23)) (.slice u n0 c0) (.slice (some ⟨w.heap.size, 0, none⟩) 1 1) = .ok (.value (.slice (some ⟨g, 0, none⟩) (l.length + 1) c')) w' ∧ KOwn w' base (.slice (some ⟨g, 0, none⟩) (l.length + 1) c') (l ++ [x]) ∧ (w.alloc (.cells (keyC x).toArray 23)).grownBy w' (Value.slice u n0 c0).ownBlock ∧ ((Value.slice u n0 c0).ownBlock = some g ∨ g = w.heap.size + 1) := by
  have hB : Below w.heap.size w (w.alloc (.cells (keyC x).toArray 23)) := (Below.refl _ _).alloc (Nat.le_refl _) _
  have hnew : SL keyC 32 (w.alloc (.cells (keyC x).toArray 23)) (some ⟨w.heap.size, 0, none⟩) 1 1 [x] := by
    rw [← rows_one keyC x]
    exact SL.new keyC_length _ [x] _ _ rfl (by unfold maxLen; simp)
  obtain ⟨g, c', w', h1, h2, h3, h4⟩ := app_keys (ty := ty) (hown.below hB) (Nat.le_trans hbase hB.size) _ _ [x] hnew (by simp) (by simpa using hlen)
  exact ⟨g, c', w', h1, h2, h3, by rw [World.size_alloc] at h4; exact h4⟩
end Go.Proofs.Ytpgaibihfplhcaa
