/- The two halves of a block's transactions. -/
import Derived.Test.YtahkiabpjfcfdaaBlkSizes
namespace Go.Proofs.Ytahkiabpjfcfdaa
set_option maxRecDepth 100000
open Go.RowKit
set_option linter.unusedVariables false
section
variable {α : Type} {f : α → List Value} {n : Nat} {w : World} {a : Option Addr} {len cap : Nat} {l : List α}
theorem SL.takes (hf : ∀ x, (f x).length = n) (h : SL f n w a len cap l) (i : Nat) (hi : i ≤ len) : SL f n w a i cap (l.take i) := by
  obtain ⟨h1, h2, h3, h4, h5⟩ := h
  refine ⟨by rw [List.length_take]; omega, by omega, h3, h4, fun hne => ?_⟩
  obtain ⟨b, o, e, hb, hr⟩ := h5 (fun e => hne (by rw [e]; exact List.take_nil))
  refine ⟨b, o, e, hb, ?_⟩
  have hsub := rowOf_sub hr 0 ((l.take i).length * n) (by rw [Nat.zero_add]; exact Nat.mul_le_mul_right _ (by rw [List.length_take]; omega))
  rw [Nat.add_zero] at hsub
  rw [hsub]
  congr 1
  rw [List.drop_zero]
  have e : rows f l = rows f (l.take i) ++ rows f (l.drop i) := by rw [← rows_append, List.take_append_drop]
  rw [e, List.take_append_of_le_length (by rw [rows_length hf]; exact Nat.le_refl _), List.take_of_length_le (by rw [rows_length hf]; exact Nat.le_refl _)]
theorem SL.drops (hf : ∀ x, (f x).length = n) (h : SL f n w a len cap l) (i : Nat) (hi : i ≤ len) (hc : i ≠ cap) : SL f n w (a.map fun x => x.add (i * n)) (len - i) (cap - i) (l.drop i) := by
  by_cases hlt : i < len
  · exact h.cut hf i hlt (cap - i) (by have := h.2.1; omega) (by have := h.2.2.1; omega)
  · obtain ⟨h1, h2, h3, h4, h5⟩ := h
    have he : l.drop i = [] := List.drop_of_length_le (by omega)
    rw [he]
    refine ⟨by simp; omega, by omega, by omega, fun ha => ?_, fun hne => absurd rfl hne⟩
    cases a with
    | none => have := h4 rfl; omega
    | some x => cases ha
theorem SL.drops0 (h : SL f n w a len cap l) (hc : len = cap) : SL f n w a (len - cap) 0 (l.drop cap) := by
  have he : l.drop cap = [] := List.drop_of_length_le (by rw [← h.1]; omega)
  rw [he]
  exact ⟨by simp; omega, by omega, Nat.zero_le _, fun _ => rfl, fun hne => absurd rfl hne⟩
end
theorem BlkL.takes {w : World} {v : BlkV} {qs : List (TxV × TxD)} {d : BlkD} (h : BlkL w v qs d) (i : Nat) (hi : i ≤ d.txs.length) : BlkL w ⟨zeroKey, zeroKey, 0, ⟨v.txs.a, i, v.txs.cap⟩⟩ (qs.take i) ⟨zeroKey, zeroKey, 0, d.txs.take i⟩ :=
  ⟨SL.takes (fun q : TxV × TxD => txC_length q.1) h.txs i (by rw [h.vlen]; exact hi), fun q hq => h.each q (List.mem_of_mem_take hq), by show d.txs.take i = _; rw [h.cont, List.map_take], rfl, rfl, ⟨rfl, (by decide : (0 : Int) ≤ 0), (by decide : (0 : Int) ≤ 4294967295)⟩⟩
theorem BlkL.ofSL {w : World} {v : BlkV} {qs : List (TxV × TxD)} {d : BlkD} (h : BlkL w v qs d) (i : Nat) {a : Option Addr} {m c : Nat} (hs : SL (fun q : TxV × TxD => txC q.1) 38 w a m c (qs.drop i)) : BlkL w ⟨zeroKey, zeroKey, 0, ⟨a, m, c⟩⟩ (qs.drop i) ⟨zeroKey, zeroKey, 0, d.txs.drop i⟩ :=
  ⟨hs, fun q hq => h.each q (List.mem_of_mem_drop hq), by show d.txs.drop i = _; rw [h.cont, List.map_drop], rfl, rfl, ⟨rfl, (by decide : (0 : Int) ≤ 0), (by decide : (0 : Int) ≤ 4294967295)⟩⟩
theorem okB.takes {d : BlkD} (h : okB d) (i : Nat) : okB ⟨zeroKey, zeroKey, 0, d.txs.take i⟩ := ⟨by show (d.txs.take i).length ≤ 40; rw [List.length_take]; have := h.1; omega, fun t ht => h.2 t (List.mem_of_mem_take ht)⟩
theorem okB.drops {d : BlkD} (h : okB d) (i : Nat) : okB ⟨zeroKey, zeroKey, 0, d.txs.drop i⟩ := ⟨by show (d.txs.drop i).length ≤ 40; rw [List.length_drop]; have := h.1; omega, fun t ht => h.2 t (List.mem_of_mem_drop ht)⟩
theorem notesL_append (l m : List TxD) : notesL (l ++ m) = notesL l ++ notesL m := by unfold notesL; simp
theorem notesL_le : ∀ (l : List TxD), (∀ t ∈ l, okT t) → (notesL l).length ≤ 60 * l.length
  | [], _ => by simp [notesL]
  | t :: l, h => by
    have := notesL_le l (fun x hx => h x (by simp [hx]))
    have h2 := (h t (by simp)).2.2.2
    unfold notesL at this ⊢
    rw [List.flatMap_cons, List.length_append, List.length_cons]; omega
theorem sigsN_le : ∀ (l : List TxD), (∀ t ∈ l, okT t) → sigsN l ≤ 60 * l.length
  | [], _ => by simp [sigsN]
  | t :: l, h => by
    have := sigsN_le l (fun x hx => h x (by simp [hx]))
    have h2 := (h t (by simp)).1
    rw [sigsN, List.length_cons]
    split <;> omega
end Go.Proofs.Ytahkiabpjfcfdaa
