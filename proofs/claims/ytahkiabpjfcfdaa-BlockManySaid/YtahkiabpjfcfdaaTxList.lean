/- A list of transactions of the call's own: what an append to it keeps. A block's cells that turn. -/
import Derived.Test.YtahkiabpjfcfdaaRd5
import Derived.Test.YtahkiabpjfcfdaaBlk
namespace Go.Proofs.Ytahkiabpjfcfdaa
open Go.RowKit
set_option linter.unusedVariables false
set_option linter.unusedSimpArgs false
set_option maxRecDepth 100000

/-- What all blocks of a transaction's lists are. -/
structure TxAll (p : Nat → Prop) (t : TxV) : Prop where
  ins : ∀ x, t.ins.a = some x → p x.block
  outs : ∀ x, t.outs.a = some x → p x.block
  nulls : ∀ x, t.nulls.a = some x → p x.block
  notes : ∀ x, t.notes.a = some x → p x.block
theorem TxAll.imp {p q : Nat → Prop} {t : TxV} (h : TxAll p t) (hq : ∀ b, p b → q b) : TxAll q t := ⟨fun x e => hq _ (h.ins x e), fun x e => hq _ (h.outs x e), fun x e => hq _ (h.nulls x e), fun x e => hq _ (h.notes x e)⟩
theorem Own.at {α : Type} {f : α → List Value} {n : Nat} {e : TypeId} {w : World} {base : Nat} {l : List α} {u : Option Addr} {m c : Nat} (h : Own f n e w base (.slice u m c) l) : ∀ x, u = some x → base ≤ x.block ∧ x.block < w.heap.size := by
  intro x hx
  rcases h.form with ⟨h1, _⟩ | ⟨g, cap, h1, h2, h3⟩
  · injection h1 with h1; rw [h1] at hx; cases hx
  · injection h1 with h1; rw [h1] at hx; injection hx with hx; subst hx; exact ⟨h2, h3⟩
theorem TxO.all {B : Nat} {w : World} {t : TxV} {d : TxD} (h : TxO B w t d) : TxAll (fun b => B ≤ b ∧ b < w.heap.size) t := ⟨h.ins.at, h.outs.at, h.nulls.at, h.notes.at⟩
theorem SL.keep {α : Type} {f : α → List Value} {n : Nat} {w w' : World} {a : Option Addr} {len cap : Nat} {l : List α} (h : SL f n w a len cap l) (hb : ∀ x, a = some x → w'.heap[x.block]? = w.heap[x.block]?) (hs : w.heap.size ≤ w'.heap.size) : SL f n w' a len cap l := by
  obtain ⟨h1, h2, h3, h4, h5⟩ := h
  refine ⟨h1, h2, h3, h4, fun hne => ?_⟩
  obtain ⟨b, o, e, hb', hr⟩ := h5 hne
  exact ⟨b, o, e, by omega, by rw [rowOf_congr (hb _ e)]; exact hr⟩
theorem TxL.keep {w w' : World} {t : TxV} {d : TxD} (h : TxL w t d) (ha : TxAll (fun b => w'.heap[b]? = w.heap[b]?) t) (hs : w.heap.size ≤ w'.heap.size) : TxL w' t d :=
  ⟨h.ins.keep ha.ins hs, h.outs.keep ha.outs hs, h.nulls.keep ha.nulls hs, h.notes.keep ha.notes hs, h.idx, h.val, h.exp, h.anchor, h.bal⟩

theorem append_tx (ρ : Operand → Value) (dst : Option Tmp) (x y : Operand) (ty : TypeId) (pos : String) (after : Array Edge) (guard : Option (Nat × Bool)) (w : World) :
    (execOp ρ ⟨dst, .call { callee := .builtin .append, args := #[x, y], argTypes := #[48, 48] }, ty, pos, after, guard⟩).run Try.prog w = appTo Try.prog 48 ty w (ρ x) (ρ y) :=
  exec_append _ ty ρ dst x y pos after guard w
theorem info_tx3 : ∃ i, Try.prog.info? 41 = some i ∧ i.size = 38 ∧ i.bytes ≤ 1000 ∧ i.zero = some (.agg (txC zeroTx).toArray) := by
  have h : (Try.prog.info? 41).map (fun i => (i.size, decide (i.bytes ≤ 1000), i.zero)) = some (38, true, some (.agg (txC zeroTx).toArray)) := by kernel_rfl
  obtain ⟨i, hi, h'⟩ := Option.map_eq_some_iff.1 h
  exact ⟨i, hi, congrArg Prod.fst h', of_decide_eq_true (congrArg (fun x => x.2.1) h'), congrArg (fun x => x.2.2) h'⟩

/-- A list of transactions with their contents; all of it the call's own. -/
structure TL (B : Nat) (w : World) (v : Value) (qs : List (TxV × TxD)) : Prop where
  own : Own (fun q : TxV × TxD => txC q.1) 38 41 w B v qs
  each : ∀ q ∈ qs, TxL w q.1 q.2 ∧ TxAll (fun b => B ≤ b ∧ b < w.heap.size ∧ v.ownBlock ≠ some b) q.1
theorem TL.nil (B : Nat) (w : World) : TL B w (.slice none 0 0) [] := ⟨Own.nil _ _ _ _ _, fun q h => (List.not_mem_nil h).elim⟩
theorem TL.congr {B : Nat} {w w' : World} {v : Value} {qs : List (TxV × TxD)} (h : TL B w v qs) (hb : ∀ b, B ≤ b → b < w.heap.size → w'.heap[b]? = w.heap[b]?) (hs : w.heap.size ≤ w'.heap.size) : TL B w' v qs :=
  ⟨h.own.congr hb, fun q hq => ⟨(h.each q hq).1.keep ((h.each q hq).2.imp fun b hx => hb b hx.1 hx.2.1) hs, (h.each q hq).2.imp fun b hx => ⟨hx.1, by omega, hx.2.2⟩⟩⟩
theorem TL.below {B : Nat} {w w' : World} {v : Value} {qs : List (TxV × TxD)} (h : TL B w v qs) (hb : Below w.heap.size w w') : TL B w' v qs := h.congr (fun b _ hl => hb.block b hl) hb.size
theorem TL.push {B C : Nat} {w : World} {v : Value} {qs : List (TxV × TxD)} {t : TxV} {d : TxD} {ty : TypeId} (h : TL B w v qs) (ht : TxO C w t d) (hC : B ≤ C) (hv : ∀ k, v.ownBlock = some k → k < C) (hlen : qs.length ≤ 1000) (hB : B ≤ w.heap.size) :
    ∃ g c w', appTo Try.prog 48 ty (w.alloc (.cells (txC t).toArray 41)) v (.slice (some ⟨w.heap.size, 0, none⟩) 1 1) = .ok (.value (.slice (some ⟨g, 0, none⟩) (qs.length + 1) c)) w' ∧
      TL B w' (.slice (some ⟨g, 0, none⟩) (qs.length + 1) c) (qs ++ [(t, d)]) ∧ Below B w w' ∧ g < w'.heap.size := by
  have hA : Below w.heap.size w (w.alloc (.cells (txC t).toArray 41)) := (Below.refl _ _).alloc (Nat.le_refl _) _
  have hS := SL.one (f := fun q : TxV × TxD => txC q.1) (fun q => txC_length q.1) (t, d) 41 w
  have hsz : (w.alloc (.cells (txC t).toArray 41)).heap.size = w.heap.size + 1 := by simp
  have h1 := h.below hA
  have ht1 := ht.below hA
  generalize w.alloc (.cells (txC t).toArray 41) = w1 at *
  obtain ⟨i, hi, hs, hb, hz⟩ := info_tx3
  obtain ⟨g, c, w', hap, hown, hgr, hg⟩ := appTo_own (ty := ty) Try.underlying48 hi hs rfl (z := (zeroTx, zeroD)) hz (fun q : TxV × TxD => txC_length q.1) (by omega) (fun q => txC_row q.1) hb h1.own (by omega) _ 1 [(t, d)] hS (by simp) (by simp; omega)
  have hgl : g < w'.heap.size := by
    rcases hown.form with ⟨e, _⟩ | ⟨g', c', e, _, hl⟩
    · cases e
    · injection e with e1; injection e1 with e1; injection e1 with e1; rw [e1]; exact hl
  have hle := hgr.size
  refine ⟨g, c, w', hap, ⟨hown, fun q hq => ?_⟩, (hA.mono hB).trans (grown_below hgr (fun k hk => (h1.own.ownBlock_le k hk)) (by omega)), hgl⟩
  rcases List.mem_append.1 hq with hq | hq
  · obtain ⟨e1, e2⟩ := h1.each q hq
    have e3 := (h.each q hq).2
    refine ⟨e1.keep (e2.imp fun b hx => hgr.block b hx.2.1 (fun e => hx.2.2 e.symm)) hle, ⟨?_, ?_, ?_, ?_⟩⟩
    all_goals
      intro x hx
      first
        | have y2 := e2.ins x hx; have y3 := e3.ins x hx
        | have y2 := e2.outs x hx; have y3 := e3.outs x hx
        | have y2 := e2.nulls x hx; have y3 := e3.nulls x hx
        | have y2 := e2.notes x hx; have y3 := e3.notes x hx
      refine ⟨y2.1, by omega, fun e => ?_⟩
      injection e with e
      replace e : g = x.block := e
      rcases hg with hg | hg
      · exact y2.2.2 (by rw [hg, e])
      · have := y3.2.1; omega
  · obtain rfl := List.mem_singleton.1 hq
    have a1 := ht1.all
    have a0 := ht.all
    refine ⟨ht1.txl.keep (a1.imp fun b hx => hgr.block b hx.2 (fun e => by have := hv b e.symm; omega)) hle, ⟨?_, ?_, ?_, ?_⟩⟩
    all_goals
      intro x hx
      first
        | have y2 := a1.ins x hx; have y3 := a0.ins x hx
        | have y2 := a1.outs x hx; have y3 := a0.outs x hx
        | have y2 := a1.nulls x hx; have y3 := a0.nulls x hx
        | have y2 := a1.notes x hx; have y3 := a0.notes x hx
      refine ⟨by omega, by omega, fun e => ?_⟩
      injection e with e
      replace e : g = x.block := e
      rcases hg with hg | hg
      · have := hv _ hg; omega
      · omega

/-! ### The cells of a block that turn -/
theorem blk_mid_set (l m r : List Value) (j : Nat) (u : Value) (h : l.length = 32) (h2 : m.length = 32) : (l ++ (m ++ r)).set (64 + j) u = l ++ (m ++ r.set j u) := by
  rw [List.set_append_right _ _ (by omega), h, List.set_append_right _ _ (by omega), h2]
  congr 3; omega
theorem blkC_set64 (b : BlkV) (i : Int) : (blkC b).set 64 (.int .u32 i) = blkC { b with nonce := i } := by unfold blkC; exact blk_mid_set _ _ _ 0 _ (keyC_length _) (keyC_length _)
theorem blkC_set65 (b : BlkV) (a : Option Addr) (n c : Nat) : (blkC b).set 65 (.slice a n c) = blkC { b with txs := ⟨a, n, c⟩ } := by unfold blkC; exact blk_mid_set _ _ _ 1 _ (keyC_length _) (keyC_length _)
theorem heap_setCell_blkC {w : World} {b : Nat} {t : BlkV} {ty : TypeId} (h : w.heap[b]? = some (.cells (blkC t).toArray ty (0, 0))) (i : Nat) (v : Value) : (w.setCell ⟨b, i, none⟩ v).heap[b]? = some (.cells ((blkC t).set i v).toArray ty (0, 0)) := by
  simp only [World.setCell, Array.getElem?_modify, if_true, h, Option.map_some]
  simp
theorem heap_setCells_prev {w : World} {b : Nat} {t : BlkV} {ty : TypeId} (h : w.heap[b]? = some (.cells (blkC t).toArray ty (0, 0))) (k : Key) : (w.setCells b 0 (keyC k)).heap[b]? = some (.cells (blkC { t with prev := k }).toArray ty (0, 0)) := by
  have hlt : b < w.heap.size := (Array.getElem?_eq_some_iff.1 h).1
  have e : ∀ t : BlkV, blkC t = [] ++ keyC t.prev ++ (keyC t.root ++ [.int .u32 t.nonce, .slice t.txs.a t.txs.len t.txs.cap]) := by intro t; unfold blkC; rfl
  rw [e t] at h
  have := setCells_append b (keyC k) w [] (keyC t.prev) (keyC t.root ++ [.int .u32 t.nonce, .slice t.txs.a t.txs.len t.txs.cap]) ty (0, 0) (by rw [keyC_length, keyC_length]) h
  rw [List.length_nil] at this
  rw [this, e { t with prev := k }]
  simp [hlt]
theorem heap_setCells_root {w : World} {b : Nat} {t : BlkV} {ty : TypeId} (h : w.heap[b]? = some (.cells (blkC t).toArray ty (0, 0))) (k : Key) : (w.setCells b 32 (keyC k)).heap[b]? = some (.cells (blkC { t with root := k }).toArray ty (0, 0)) := by
  have hlt : b < w.heap.size := (Array.getElem?_eq_some_iff.1 h).1
  have e : ∀ t : BlkV, blkC t = keyC t.prev ++ keyC t.root ++ [.int .u32 t.nonce, .slice t.txs.a t.txs.len t.txs.cap] := by intro t; unfold blkC; rw [List.append_assoc]
  rw [e t] at h
  have := setCells_append b (keyC k) w (keyC t.prev) (keyC t.root) [.int .u32 t.nonce, .slice t.txs.a t.txs.len t.txs.cap] ty (0, 0) (by rw [keyC_length, keyC_length]) h
  rw [keyC_length] at this
  rw [this, e { t with root := k }]
  simp [hlt]
end Go.Proofs.Ytahkiabpjfcfdaa
