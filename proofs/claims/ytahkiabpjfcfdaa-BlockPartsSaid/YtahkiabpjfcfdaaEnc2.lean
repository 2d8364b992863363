/- Package tx: the writer of nullifiers; Encode. -/
import Derived.Test.YtahkiabpjfcfdaaEnc
import Derived.Test.YtahkiabpjfcfdaaOpenTx
import Derived.Test.YtahkiabpjfcfdaaOpenRows
namespace Go.Proofs.Ytahkiabpjfcfdaa
open Go.RowKit
set_option linter.unusedVariables false
set_option linter.unusedSimpArgs false
set_option maxRecDepth 100000
attribute [local irreducible] Int.lt Int.le
attribute [local go_sem ↓] load_key store_key alloc_key build0_key eq_key load_point store_point alloc_point load_out store_out alloc_out load_tx store_tx alloc_tx
attribute [local go_sem] rowOf_drew rowOf_alloc_old rowOf_alloc_new canPut_drew canPut_alloc_old canPut_alloc_new setCells_alloc_new

theorem Bld.setCell {w : World} {b k : Nat} {bs : List UInt8} {c : Array Value} {t : TypeId} {fz : Nat × Nat} (h : Bld w b bs) (hk : w.heap[k]? = some (.cells c t fz)) (ht : t ≠ 5) (hb : k ≠ b) (v : Value) : Bld (w.setCell ⟨k, 0, none⟩ v) b bs := by
  have hh : ∀ g, g ≠ k → (w.setCell ⟨k, 0, none⟩ v).heap[g]? = w.heap[g]? := fun g hg => Below.heap_setCell _ _ _ _ hg
  have key : ∀ p, Lib.BuilderAtF 107 5 b b p (Lib.byteCells bs) w → Lib.BuilderAtF 107 5 b b p (Lib.byteCells bs) (w.setCell ⟨k, 0, none⟩ v) := by
    rintro p ⟨h0, u, h1, ⟨h2, h3⟩, h4⟩
    refine ⟨h0, u, by rw [hh b (fun e => hb e.symm)]; exact h1, ⟨h2, ?_⟩, h4⟩
    rcases h3 with h3 | ⟨g, cap, cur, fz', hv, hg, hgh, r⟩
    · exact .inl h3
    · refine .inr ⟨g, cap, cur, fz', hv, hg, ?_, r⟩
      rw [hh g (fun e => by subst e; rw [hk] at hgh; injection hgh with e1; injection e1 with e1 e2 e3; exact ht e2)]
      exact hgh
  exact h.elim (fun x => .inl (key _ x)) (fun x => .inr (key _ x))
theorem heap_setCell_one {w : World} {k : Nat} {v : Value} {t : TypeId} {fz : Nat × Nat} (h : w.heap[k]? = some (.cells #[v] t fz)) (u : Value) : (w.setCell ⟨k, 0, none⟩ u).heap[k]? = some (.cells #[u] t fz) := by
  simp only [World.setCell, Array.getElem?_modify, if_true, h, Option.map_some]
  simp
theorem heap_setCell_ne {w : World} {k g : Nat} (h : g ≠ k) (u : Value) : (w.setCell ⟨k, 0, none⟩ u).heap[g]? = w.heap[g]? := Below.heap_setCell _ _ _ _ h

/-- The variables of the writer of nullifiers: is it the first, the writer of keys, the transaction. -/
structure NB (b fb kb tb : Nat) (t : TxV) (i : Nat) (w : World) : Prop where
  first : w.heap[fb]? = some (.cells #[.bool (decide (i = 0))] 4 (0, 0))
  key : KB b kb w
  tx : w.heap[tb]? = some (.cells (txC t).toArray 41 (0, 0))
  ne : b < fb ∧ fb ≠ kb ∧ tb < b
theorem NB.keep {b fb kb tb : Nat} {t : TxV} {i : Nat} {w w' : World} (h : NB b fb kb tb t i w) (hk : Kp b w w') : NB b fb kb tb t i w' :=
  ⟨hk.heap h.first (by have := h.ne; omega) (by decide), h.key.keep hk, hk.heap h.tx (by have := h.ne; omega) (by decide), h.ne⟩
def nullF (t : TxV) (i : Nat) (k : Key) : List UInt8 := (if i = 0 then t.anchor.val else []) ++ k.val
theorem nullF_length (t : TxV) (i : Nat) (k : Key) : (nullF t i k).length ≤ 64 := by
  unfold nullF
  rw [List.length_append, k.property]
  split
  · rw [t.anchor.property]; omega
  · simp
/-- What a transaction's cells are, all of them. -/
theorem tx_all {w : World} {b : Nat} {t : TxV} (h : w.heap[b]? = some (.cells (txC t).toArray 41 (0, 0))) :
    b < w.heap.size ∧ w.cell? ⟨b, 0, none⟩ = some (.int .u32 t.exp) ∧ w.cell? ⟨b, 1, none⟩ = some (.slice t.ins.a t.ins.len t.ins.cap) ∧ w.cell? ⟨b, 2, none⟩ = some (.slice t.outs.a t.outs.len t.outs.cap) ∧
      rowOf w b 3 32 = some (keyC t.anchor) ∧ w.cell? ⟨b, 35, none⟩ = some (.slice t.nulls.a t.nulls.len t.nulls.cap) ∧ w.cell? ⟨b, 36, none⟩ = some (.slice t.notes.a t.notes.len t.notes.cap) ∧ w.cell? ⟨b, 37, none⟩ = some (.int .i64 t.bal) := by
  have hr : rowOf w b 0 38 = some (txC t) := by
    rw [rowOf_block h 0 38 (by simp [txC_length])]
    congr 1; simp
    exact List.take_of_length_le (by rw [txC_length]; exact Nat.le_refl _)
  have hc := (rowOf_some.1 hr).2
  have c := fun j v (e : (txC t)[j]? = some v) => by
    have := hc j v e
    rw [Nat.zero_add] at this
    exact this
  refine ⟨(Array.getElem?_eq_some_iff.1 h).1, c 0 _ (txC_0 t), c 1 _ (txC_1 t), c 2 _ (txC_2 t), ?_, c 35 _ (txC_35 t), c 36 _ (txC_36 t), c 37 _ (txC_37 t)⟩
  have := rowOf_sub hr 3 32 (by omega)
  rw [Nat.zero_add] at this
  rw [this]
  unfold txC
  rw [List.drop_succ_cons, List.drop_succ_cons, List.drop_succ_cons, List.drop_zero, List.take_append_of_le_length (by rw [keyC_length]; exact Nat.le_refl _), List.take_of_length_le (by rw [keyC_length]; exact Nat.le_refl _)]

set_option maxHeartbeats 1000000 in
theorem enc4_any {b fb kb tb : Nat} {t : TxV} {i : Nat} {bs : List UInt8} (k : Key) {w : World} (h : Bld w b bs) (hN : NB b fb kb tb t i w) (hlen : bs.length ≤ 80000) :
    Calls Try.prog 89 #[.agg (keyC k).toArray, .pointer (some ⟨fb, 0, none⟩), .pointer (some ⟨kb, 0, none⟩), .pointer (some ⟨tb, 0, none⟩)] w
      (fun e w' => e = .returned (.tuple #[]) ∧ Bld w' b (bs ++ nullF t i k) ∧ NB b fb kb tb t (i + 1) w' ∧ Below b w w') := by
  have hk1 : Kp b w (w.alloc (.cells (keyC k).toArray 38)) := (Kp.refl b w).alloc (Nat.le_of_lt h.lt) _
  have hH1 : (w.alloc (.cells (keyC k).toArray 38)).heap[w.heap.size]? = some (.cells (keyC k).toArray 38 (0, 0)) := heap_alloc_new w _
  have hr1 : ∀ w', w'.heap[w.heap.size]? = some (.cells (keyC k).toArray 38 (0, 0)) → rowOf w' w.heap.size 0 32 = some (keyC k) := fun w' hw => by
    have := rowOf_block hw 0 32 (by simp [keyC_length])
    rw [this]; congr 1; simp; exact List.take_of_length_le (by rw [keyC_length]; exact Nat.le_refl _)
  have h1 := h.alloc (.cells (keyC k).toArray 38)
  have hlt := h.lt
  have hs1 : (w.alloc (.cells (keyC k).toArray 38)).heap.size = w.heap.size + 1 := by simp
  have hN1 := hN.keep hk1
  have hfw : fb < w.heap.size := (Array.getElem?_eq_some_iff.1 hN.first).1
  replace h := Box.mk h
  replace hN := Box.mk hN
  obtain ⟨hb1, hb2, hb3⟩ := hN1.ne
  have hf1 := hN1.first
  have f1 : (w.alloc (.cells (keyC k).toArray 38)).cell? ⟨fb, 0, none⟩ = some (.bool (decide (i = 0))) := by rw [cell_of_row _ fb 0 _ _ _ hf1]; rfl
  have f2 : fb < (w.alloc (.cells (keyC k).toArray 38)).heap.size := (Array.getElem?_eq_some_iff.1 hf1).1
  by_cases hi : i = 0
  · rw [decide_eq_true hi] at f1
    have hF : nullF t i k = t.anchor.val ++ k.val := by unfold nullF; rw [if_pos hi]
    rw [hF, ← List.append_assoc]
    replace hF := Box.mk hF
    obtain ⟨t0, t1, t2, t3, t4, t5, t6, t7⟩ := tx_all hN1.tx
    clear t1 t2 t3 t5 t6 t7
    obtain ⟨d1, d2⟩ := hN1.key.cell
    go_enter Try.func89, Try.ntmps89
    go_wp2_with fail
    generalize w.alloc (.cells (keyC k).toArray 38) = w1 at *
    refine (enc1_any t.anchor h1 (by omega)).mono ?_
    rintro e w2 ⟨rfl, h2, hk2⟩
    have hN2 := hN1.keep hk2
    have hH2 := hk2.heap hH1 (by omega) (by decide)
    have hs2 := hk2.size
    have hf2 := hN2.first
    have h3 := h2.setCell hf2 (by decide) (by omega) (.bool false)
    have hf3 := heap_setCell_one hf2 (.bool false)
    have hK3 : KB b kb (w2.setCell ⟨fb, 0, none⟩ (.bool false)) := ⟨by rw [heap_setCell_ne (fun e => hb2 e.symm)]; exact hN2.key.1, hN2.key.2⟩
    have hT3 : (w2.setCell ⟨fb, 0, none⟩ (.bool false)).heap[tb]? = some (.cells (txC t).toArray 41 (0, 0)) := by rw [heap_setCell_ne (by omega)]; exact hN2.tx
    have hR3 : rowOf (w2.setCell ⟨fb, 0, none⟩ (.bool false)) w.heap.size 0 32 = some (keyC k) := hr1 _ (by rw [heap_setCell_ne (by omega)]; exact hH2)
    have hB3 : Below b w (w2.setCell ⟨fb, 0, none⟩ (.bool false)) := Below.setCell (hk1.trans hk2).below (Nat.le_of_lt hb1) _
    obtain ⟨d3, d4⟩ := hK3.cell
    have g1 : w2.cell? ⟨fb, 0, none⟩ = some (.bool true) := by rw [cell_of_row _ fb 0 _ _ _ hf2]; simp [hi]
    have g2 : w2.frozen? ⟨fb, 0, none⟩ = false := frozen_of_row _ fb 0 _ _ hf2
    have g3 : fb < w2.heap.size := (Array.getElem?_eq_some_iff.1 hf2).1
    have g4 : w.heap.size < (w2.setCell ⟨fb, 0, none⟩ (.bool false)).heap.size := by simp [World.setCell]; omega
    replace hr1 := Box.mk hr1
    replace h2 := Box.mk h2
    replace h1 := Box.mk h1
    replace hN1 := Box.mk hN1
    replace hN2 := Box.mk hN2
    replace hf1 := Box.mk hf1
    replace hf2 := Box.mk hf2
    replace hf3 := Box.mk hf3
    replace hH1 := Box.mk hH1
    replace hH2 := Box.mk hH2
    clear f1 t4 d1
    go_wp2_with fail
    generalize w2.setCell ⟨fb, 0, none⟩ (.bool false) = w3 at *
    refine (enc1_any k h3 (by rw [List.length_append, t.anchor.property]; omega)).mono ?_
    rintro e w4 ⟨rfl, h4, hk4⟩
    have hN4 : NB b fb kb tb t (i + 1) w4 := NB.keep ⟨by rw [hf3.out]; simp, hK3, hT3, hb1, hb2, hb3⟩ hk4
    replace h4 := Box.mk h4
    replace hN4 := Box.mk hN4
    go_wp2
    go_end0
    exact ⟨rfl, h4.out, hN4.out, hB3.trans hk4.below⟩
  · rw [decide_eq_false hi] at f1
    have hF : nullF t i k = k.val := by unfold nullF; rw [if_neg hi]; rfl
    rw [hF]
    replace hF := Box.mk hF
    go_enter Try.func89, Try.ntmps89
    have h3 := h1.setCell hf1 (by decide) (by omega) (.bool false)
    have hf3 := heap_setCell_one hf1 (.bool false)
    have hK3 : KB b kb ((w.alloc (.cells (keyC k).toArray 38)).setCell ⟨fb, 0, none⟩ (.bool false)) := ⟨by rw [heap_setCell_ne (fun e => hb2 e.symm)]; exact hN1.key.1, hN1.key.2⟩
    have hT3 : ((w.alloc (.cells (keyC k).toArray 38)).setCell ⟨fb, 0, none⟩ (.bool false)).heap[tb]? = some (.cells (txC t).toArray 41 (0, 0)) := by rw [heap_setCell_ne (by omega)]; exact hN1.tx
    have hR3 : rowOf ((w.alloc (.cells (keyC k).toArray 38)).setCell ⟨fb, 0, none⟩ (.bool false)) w.heap.size 0 32 = some (keyC k) := hr1 _ (by rw [heap_setCell_ne (by omega)]; exact hH1)
    have hB3 : Below b w ((w.alloc (.cells (keyC k).toArray 38)).setCell ⟨fb, 0, none⟩ (.bool false)) := Below.setCell hk1.below (Nat.le_of_lt hb1) _
    have hs3 : ((w.alloc (.cells (keyC k).toArray 38)).setCell ⟨fb, 0, none⟩ (.bool false)).heap.size = w.heap.size + 1 := by simp [World.setCell]
    rw [setCell_alloc_old w (.cells (keyC k).toArray 38) fb 0 (.bool false) hfw] at h3 hf3 hK3 hT3 hR3 hB3 hs3
    obtain ⟨d3, d4⟩ := hK3.cell
    have g1 : w.cell? ⟨fb, 0, none⟩ = some (.bool false) := by rw [cell_of_row _ fb 0 _ _ _ hN.out.first]; simp [hi]
    have g2 : w.frozen? ⟨fb, 0, none⟩ = false := frozen_of_row _ fb 0 _ _ hN.out.first
    have g4 : w.heap.size < ((w.setCell ⟨fb, 0, none⟩ (.bool false)).alloc (.cells (keyC k).toArray 38)).heap.size := by omega
    replace hr1 := Box.mk hr1
    replace h1 := Box.mk h1
    replace hN1 := Box.mk hN1
    replace hf3 := Box.mk hf3
    replace hf1 := Box.mk hf1
    replace hH1 := Box.mk hH1
    clear hs1 f1 f2
    go_wp2_with fail
    generalize (w.setCell ⟨fb, 0, none⟩ (.bool false)).alloc (.cells (keyC k).toArray 38) = w3 at *
    refine (enc1_any k h3 (by omega)).mono ?_
    rintro e w4 ⟨rfl, h4, hk4⟩
    have hN4 : NB b fb kb tb t (i + 1) w4 := NB.keep ⟨by rw [hf3.out]; simp, hK3, hT3, hb1, hb2, hb3⟩ hk4
    replace h4 := Box.mk h4
    replace hN4 := Box.mk hN4
    go_wp2
    go_end0
    exact ⟨rfl, h4.out, hN4.out, hB3.trans hk4.below⟩

end Go.Proofs.Ytahkiabpjfcfdaa
