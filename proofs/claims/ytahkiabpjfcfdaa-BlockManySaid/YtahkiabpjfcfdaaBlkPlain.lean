/- A block in plain words: what was written is read, its beginnings are none, and there is one way to write it. No walk. -/
import Derived.Test.YtahkiabpjfcfdaaBlkRd
import Derived.Test.YtahkiabpjfcfdaaRefBlk
namespace Go.Proofs.Ytahkiabpjfcfdaa
open Go.RowKit
set_option linter.unusedVariables false
set_option linter.unusedSimpArgs false
set_option maxRecDepth 100000

theorem cmpX_good {m : Nat} (h0 : 0 < m) (h30 : m ≤ 30) : cmpX m 0 = 0 := by unfold cmpX; rw [if_pos rfl, if_neg (by omega), if_neg (by omega)]
theorem cmp_reads {m : Nat} (h0 : 0 < m) (h30 : m ≤ 30) : Reads cmpR m (compactL m) := by
  refine ⟨fun r => ?_, fun i hi => ?_⟩
  · have h : readV (compactL m ++ r) = (m, r, 0) := by unfold readV; rw [readL_compactL (by omega)]; rfl
    exact cmpR_ok h (cmpX_good h0 h30)
  · have h : readV ((compactL m).take i) = (0, [], 30) := by unfold readV; rw [readL_short hi]; rfl
    have := cmpR_err h (by decide)
    rw [this]; rfl
theorem cmp_one {m : Nat} {s r : List UInt8} (h : cmpR s = .ok (m, r)) : s = compactL m ++ r ∧ 0 < m ∧ m ≤ 30 := by
  obtain ⟨hv, h0, h30⟩ := cmpR_inv h
  have hm : manyR s = .ok (m, r) := by
    have := manyR_well (s := s) (by rw [hv]) (by rw [hv]; show ¬ 40 < m; omega)
    rw [this, hv]
  exact ⟨(many_one hm).1, h0, h30⟩
theorem encV_ok {d : TxD} {s : List UInt8} (h : encV d = (s, 0)) : s = encB d ∧ wellB d := by
  rcases encV_cases d with ⟨_, h1⟩ | ⟨_, _, _, h1⟩ | ⟨hm, h2, h1⟩
  · rw [h1] at h; injection h with _ h; cases h
  · rw [h1] at h; injection h with _ h; cases h
  · rw [h1] at h
    injection h with h _
    exact ⟨h.symm, hm, fun h0 => Decidable.byContradiction fun hne => h2 ⟨h0, hne⟩⟩
theorem encTxs_inv : ∀ (l : List TxD) (s : List UInt8), encTxs l = .ok s → s = l.flatMap encB ∧ ∀ x ∈ l, wellB x
  | [], s, h => by injection h with h; subst h; exact ⟨rfl, fun x hx => (List.not_mem_nil hx).elim⟩
  | t :: l, s, h => by
    unfold encTxs at h
    split at h
    · rename_i hx
      obtain ⟨b, x, hb⟩ : ∃ b x, encV t = (b, x) := ⟨_, _, rfl⟩
      rw [hb] at hx
      replace hx : x = 0 := hx
      subst hx
      obtain ⟨e1, e2⟩ := encV_ok hb
      cases hl : encTxs l with
      | error y => rw [hl] at h; cases h
      | ok s2 =>
        rw [hl] at h
        injection h with h
        obtain ⟨e3, e4⟩ := encTxs_inv l s2 hl
        refine ⟨by rw [← h, hb, e1, e3, List.flatMap_cons], fun y hy => ?_⟩
        rcases List.mem_cons.1 hy with rfl | hy
        · exact e2
        · exact e4 y hy
    · cases h
theorem encTxs_of : ∀ (l : List TxD), (∀ x ∈ l, wellB x) → encTxs l = .ok (l.flatMap encB)
  | [], _ => rfl
  | t :: l, h => by
    unfold encTxs
    rw [encV_well (h t List.mem_cons_self), if_pos rfl, encTxs_of l (fun x hx => h x (List.mem_cons_of_mem _ hx))]
    rfl
theorem wellB_ok {d : TxD} (h : wellB d) : okT d := by
  obtain ⟨h1, h2, h3, h4⟩ := manyB_false h.1
  exact ⟨by omega, by omega, by omega, by omega⟩

/-- There is one way to write a block. -/
theorem blkRd_one {s : List UInt8} {d : BlkD} (h : blkRd s = .ok d) : blkV d = (s, 0) ∧ okB d := by
  unfold blkRd at h
  cases hp : blkP s with
  | error x => rw [hp] at h; cases h
  | ok y =>
    obtain ⟨d', r⟩ := y
    rw [hp] at h
    dsimp only at h
    split at h
    · rename_i hr
      injection h with h
      subst h hr
      unfold blkP at hp
      obtain ⟨p, r1, h1, hp⟩ := thenR_inv hp
      obtain ⟨q, r2, h2, hp⟩ := thenR_inv hp
      obtain ⟨n, r3, h3, hp⟩ := thenR_inv hp
      obtain ⟨m, r4, h4, hp⟩ := thenR_inv hp
      obtain ⟨l, r5, h5, hp⟩ := thenR_inv hp
      injection hp with hp
      injection hp with hp hr
      subst hp hr
      have e1 := key_one h1
      have e2 := key_one h2
      have e3 := (num_one h3).1
      obtain ⟨e4, m0, m30⟩ := cmp_one h4
      obtain ⟨e5, hl, hw⟩ := list_one (f := encB) (Q := wellB) (fun s x r h => ⟨(tx_one h).1, (tx_one h).2.2⟩) m r4 l [] h5
      rw [List.append_nil] at e5
      refine ⟨?_, by show l.length ≤ 40; omega, fun t ht => wellB_ok (hw t ht)⟩
      have hl' : (BlkD.mk p q (n : Nat) l).txs.length = m := hl
      rw [blkV_ok (by rw [hl']; omega) (by rw [hl']; omega) (encTxs_of l hw)]
      unfold blkHead
      rw [hl', e1, e2, e3, e4, e5]
      simp only [Int.toNat_natCast, List.append_assoc]
    · cases h

/-- What was written is read; its beginnings are none, nor is more. -/
theorem blk_back {d : BlkD} {s : List UInt8} (h : blkV d = (s, 0)) (hok : ∀ t ∈ d.txs, TxOK t) (hn : 0 ≤ d.nonce ∧ d.nonce ≤ 4294967295) : Reads blkP d s ∧ s ≠ [] := by
  by_cases h0 : d.txs.length = 0
  · rw [blkV_zero h0] at h; injection h with _ h; cases h
  by_cases h30 : 30 < d.txs.length
  · rw [blkV_many h0 h30] at h; injection h with _ h; cases h
  cases he : encTxs d.txs with
  | error x =>
    rw [blkV_err h0 h30 he] at h
    injection h with _ h
    exact absurd h (encTxs_ne _ _ he)
  | ok t =>
    rw [blkV_ok h0 h30 he] at h
    injection h with h _
    obtain ⟨e1, e2⟩ := encTxs_inv _ _ he
    have hR := (key_reads d.prev).bind (f := fun p r1 => thenR (keyR r1) fun q r2 => thenR (numR 4 r2) fun n r3 => thenR (cmpR r3) fun m r4 => thenR (listR txR m r4) fun l r5 => .ok ((⟨p, q, (n : Nat), l⟩ : BlkD), r5))
      ((key_reads d.root).bind (f := fun q r2 => thenR (numR 4 r2) fun n r3 => thenR (cmpR r3) fun m r4 => thenR (listR txR m r4) fun l r5 => .ok ((⟨d.prev, q, (n : Nat), l⟩ : BlkD), r5))
        ((num_reads (k := 4) (n := d.nonce.toNat) (by omega)).bind (f := fun n r3 => thenR (cmpR r3) fun m r4 => thenR (listR txR m r4) fun l r5 => .ok ((⟨d.prev, d.root, (n : Nat), l⟩ : BlkD), r5))
          ((cmp_reads (m := d.txs.length) (by omega) (by omega)).bind (f := fun m r4 => thenR (listR txR m r4) fun l r5 => .ok ((⟨d.prev, d.root, (d.nonce.toNat : Nat), l⟩ : BlkD), r5))
            ((list_reads (p := txR) (f := encB) d.txs (fun x hx => tx_reads (hok x hx) (e2 x hx))).map fun l => (⟨d.prev, d.root, (d.nonce.toNat : Nat), l⟩ : BlkD)))))
    have hd : (⟨d.prev, d.root, (d.nonce.toNat : Nat), d.txs⟩ : BlkD) = d := by
      cases d; simp only at hn ⊢; congr 1; omega
    rw [hd] at hR
    have hs : d.prev.val ++ (d.root.val ++ (le 4 d.nonce.toNat ++ (compactL d.txs.length ++ d.txs.flatMap encB))) = s := by
      rw [← h, e1]; unfold blkHead; simp only [List.append_assoc]
    rw [hs] at hR
    refine ⟨?_, ?_⟩
    · unfold blkP; exact hR
    · rw [← h]
      intro hnil
      have := blkHead_length d (by omega)
      have h2 := congrArg List.length hnil
      rw [List.length_append, this] at h2
      simp at h2
theorem blk_read {d : BlkD} {s : List UInt8} (h : Reads blkP d s) : blkRd s = .ok d := blkRd_ok (by have := h.back []; rw [List.append_nil] at this; exact this)
theorem blk_short {d : BlkD} {s : List UInt8} (h : Reads blkP d s) (i : Nat) (hi : i < s.length) : blkRd (s.take i) = .error 30 := blkRd_err (h.short i hi)
theorem blk_more {d : BlkD} {s : List UInt8} (h : Reads blkP d s) (r : List UInt8) (hr : r ≠ []) : blkRd (s ++ r) = .error 50 := blkRd_more (h.back r) hr
end Go.Proofs.Ytahkiabpjfcfdaa
