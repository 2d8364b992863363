/- Layer 5 in plain words: what was written is read, its beginnings are none, and there is one way to write it. No walk. -/
import Derived.Test.YtahkiabpjfcfdaaPar
import Derived.Test.YtahkiabpjfcfdaaRef5
import Derived.Test.YtahkiabpjfcfdaaBase2
namespace Go.Proofs.Ytahkiabpjfcfdaa
set_option maxRecDepth 100000
open Go.RowKit
set_option linter.unusedVariables false
set_option linter.unusedSimpArgs false

/-- The bytes s are what x is written to. -/
structure Reads {α : Type} (p : List UInt8 → Got α) (x : α) (s : List UInt8) : Prop where
  back : ∀ r, p (s ++ r) = .ok (x, r)
  short : ∀ i, i < s.length → p (s.take i) = .error 30
theorem Reads.pure {α : Type} (x : α) : Reads (fun b => .ok (x, b)) x [] := ⟨fun r => rfl, fun i h => absurd h (Nat.not_lt_zero _)⟩
theorem Reads.bind {α β : Type} {p : List UInt8 → Got α} {f : α → List UInt8 → Got β} {x : α} {y : β} {s s' : List UInt8} (h : Reads p x s) (h' : Reads (f x) y s') : Reads (fun b => thenR (p b) f) y (s ++ s') := by
  refine ⟨fun r => ?_, fun i hi => ?_⟩
  · show thenR (p (s ++ s' ++ r)) f = _
    rw [List.append_assoc, h.back, thenR_ok, h'.back]
  · show thenR (p ((s ++ s').take i)) f = _
    rw [List.length_append] at hi
    by_cases hl : i < s.length
    · rw [List.take_append_of_le_length (by omega), h.short i hl]; rfl
    · have e : (s ++ s').take i = s ++ s'.take (i - s.length) := by
        rw [List.take_append, List.take_of_length_le (l := s) (by omega)]
      rw [e, h.back, thenR_ok, h'.short _ (by omega)]
theorem Reads.map {α β : Type} {p : List UInt8 → Got α} {x : α} {s : List UInt8} (g : α → β) (h : Reads p x s) : Reads (fun b => thenR (p b) fun x r => .ok (g x, r)) (g x) s := by
  have := h.bind (f := fun x r => .ok (g x, r)) (Reads.pure (g x))
  rwa [List.append_nil] at this

theorem num_reads {k n : Nat} (hn : n < 256 ^ k) : Reads (numR k) n (le k n) := by
  refine ⟨fun r => ?_, fun i hi => ?_⟩
  · rw [numR_well (by rw [List.length_append, le_length]; omega), List.take_left' (le_length k n), List.drop_left' (le_length k n), unle_le, Nat.mod_eq_of_lt hn]
  · rw [le_length] at hi
    exact numR_short (by rw [List.length_take, le_length]; omega)
theorem key_reads (k : Key) : Reads keyR k k.val := by
  refine ⟨fun r => ?_, fun i hi => ?_⟩
  · have h32 : 32 ≤ (k.val ++ r).length := by rw [List.length_append, k.2]; omega
    rw [keyR_well h32]
    have h1 : (k.val ++ r).take 32 = k.val := by rw [List.take_append_of_le_length (by rw [k.2]; exact Nat.le_refl _), List.take_of_length_le (by rw [k.2]; exact Nat.le_refl _)]
    have h2 : (k.val ++ r).drop 32 = r := by rw [List.drop_append_of_le_length (by rw [k.2]; exact Nat.le_refl _), List.drop_of_length_le (by rw [k.2]; exact Nat.le_refl _)]; rfl
    rw [h2, show keyOf (k.val ++ r) h32 = k from Key.ext h1]
  · rw [k.2] at hi
    exact keyR_short (by rw [List.length_take, k.2]; omega)
theorem many_reads {n : Nat} (hn : n ≤ 40) : Reads manyR n (compactL n) := by
  refine ⟨fun r => ?_, fun i hi => ?_⟩
  · have h : readV (compactL n ++ r) = (n, r, 0) := by unfold readV; rw [readL_compactL (by omega)]; rfl
    rw [manyR_well (by rw [h]) (by rw [h]; exact Nat.not_lt.2 hn), h]
  · have h : readV ((compactL n).take i) = (0, [], 30) := by unfold readV; rw [readL_short hi]; rfl
    rw [manyR_err (by rw [h]; decide), h]
theorem i64_back {v : Int} (h : -9223372036854775808 ≤ v ∧ v ≤ 9223372036854775807) : i64N (u64N v) = v := by unfold i64N u64N wrap64; omega
theorem u64_back {n : Nat} (h : n < 18446744073709551616) : u64N (i64N n) = n := by unfold i64N u64N wrap64; omega
theorem pt_reads {p : PointV} (h : 0 ≤ p.idx ∧ p.idx ≤ 4294967295) : Reads ptR p (ptB p) := by
  have hk := (key_reads p.tx).bind (f := fun k r => thenR (numR 4 r) fun n q => .ok ((⟨k, (n : Int)⟩ : PointV), q)) ((num_reads (k := 4) (n := p.idx.toNat) (by omega)).map fun (n : Nat) => (⟨p.tx, (n : Int)⟩ : PointV))
  rw [show ((⟨p.tx, (p.idx.toNat : Int)⟩ : PointV)) = p from by cases p; simp only at h ⊢; congr 1; omega] at hk
  unfold ptB
  unfold ptR
  exact hk
theorem out_reads {p : OutV} (h : -9223372036854775808 ≤ p.value ∧ p.value ≤ 9223372036854775807) : Reads outR p (outB p) := by
  have hk := (num_reads (k := 8) (n := u64N p.value) (u64N_lt _)).bind (f := fun n r => thenR (keyR r) fun k q => .ok ((⟨i64N n, k⟩ : OutV), q)) ((key_reads p.lock).map fun k => (⟨i64N (u64N p.value), k⟩ : OutV))
  rw [show ((⟨i64N (u64N p.value), p.lock⟩ : OutV)) = p from by rw [i64_back h]] at hk
  unfold outB
  unfold outR
  exact hk
theorem list_reads {α : Type} {p : List UInt8 → Got α} {f : α → List UInt8} : ∀ (l : List α), (∀ x ∈ l, Reads p x (f x)) → Reads (listR p l.length) l (l.flatMap f)
  | [], _ => ⟨fun r => rfl, fun i h => absurd h (Nat.not_lt_zero _)⟩
  | x :: l, h => by
    have h1 := (h x (List.mem_cons_self)).bind (f := fun x r => thenR (listR p l.length r) fun l q => .ok (x :: l, q)) ((list_reads l (fun y hy => h y (List.mem_cons_of_mem _ hy))).map fun l => x :: l)
    rw [List.flatMap_cons]
    exact h1
theorem anchor_reads {n : Nat} {a : Key} (h : n = 0 → a = zeroKey) : Reads (anchorR n) a (if n = 0 then [] else a.val) := by
  by_cases h0 : n = 0
  · subst h0
    rw [if_pos rfl, h rfl]
    exact ⟨fun r => by simp [anchorR], fun i h => absurd h (Nat.not_lt_zero _)⟩
  · rw [if_neg h0]
    have e : anchorR n = keyR := by funext s; unfold anchorR; rw [if_pos (by omega)]
    rw [e]
    exact key_reads a

/-- A transaction's numbers are what their types hold. -/
structure TxOK (d : TxD) : Prop where
  idx : ∀ p : PointV, p ∈ d.ins → 0 ≤ p.idx ∧ p.idx ≤ 4294967295
  val : ∀ p : OutV, p ∈ d.outs → -9223372036854775808 ≤ p.value ∧ p.value ≤ 9223372036854775807
  exp : 0 ≤ d.exp ∧ d.exp ≤ 4294967295
  bal : -9223372036854775808 ≤ d.bal ∧ d.bal ≤ 9223372036854775807
theorem TxL.ok {w : World} {t : TxV} {d : TxD} (h : TxL w t d) : TxOK d := ⟨h.idx, h.val, h.exp.2, h.bal.2⟩
/-- It can be written. -/
def wellB (d : TxD) : Prop := manyB d = false ∧ (d.nulls.length = 0 → d.anchor = zeroKey)
theorem encB_parts (d : TxD) : encB d = le 4 d.exp.toNat ++ (compactL d.ins.length ++ (d.ins.flatMap ptB ++ (compactL d.outs.length ++ (d.outs.flatMap outB ++ (compactL d.nulls.length ++ ((if d.nulls.length = 0 then [] else d.anchor.val) ++ (d.nulls.flatMap (fun k => k.val) ++ (compactL d.notes.length ++ (d.notes.flatMap (fun k => k.val) ++ le 8 (u64N d.bal)))))))))) := by
  unfold encB
  rw [catF_plain, catF_plain, catF_nulls, catF_plain]
  simp only [List.append_assoc]
theorem encV_well {d : TxD} (h : wellB d) : encV d = (encB d, 0) := by
  unfold encV
  rw [h.1, if_neg (by simp), if_neg (fun hz => hz.2 (h.2 hz.1))]
theorem well_of_encV {d : TxD} {s : List UInt8} (h : encV d = (s, 0)) : wellB d ∧ s = encB d := by
  rcases encV_cases d with ⟨hm, hE⟩ | ⟨hm, hn, ha, hE⟩ | ⟨hm, hz, hE⟩
  · rw [hE] at h; injection h with h1 h2; omega
  · rw [hE] at h; injection h with h1 h2; omega
  · rw [hE] at h
    injection h with h1 h2
    exact ⟨⟨hm, fun h0 => Decidable.not_not.1 (fun hne => hz ⟨h0, hne⟩)⟩, h1.symm⟩

theorem tx_reads {d : TxD} (h : TxOK d) (hw : wellB d) : Reads txR d (encB d) := by
  obtain ⟨hm, ha⟩ := hw
  obtain ⟨m1, m2, m3, m4⟩ := manyB_false hm
  rw [encB_parts]
  have hd : ∀ d' : TxD, ({ exp := d.exp, ins := d.ins, outs := d.outs, anchor := d.anchor, nulls := d.nulls, notes := d.notes, bal := d.bal } : TxD) = d := fun _ => rfl
  have s6 : Reads (rtx6 { d with bal := 0 }) d (le 8 (u64N d.bal)) := by
    have := (num_reads (k := 8) (n := u64N d.bal) (u64N_lt _)).map fun n => ({ d with bal := i64N n } : TxD)
    rw [i64_back h.bal] at this
    exact this
  have s5 : Reads (rtx5 { d with notes := [], bal := 0 }) d (compactL d.notes.length ++ (d.notes.flatMap (fun k => k.val) ++ le 8 (u64N d.bal))) :=
    (many_reads m4).bind (f := fun n r => thenR (listR keyR n r) fun l q => rtx6 { d with notes := l, bal := 0 } q) ((list_reads d.notes (f := fun k => k.val) (fun k _ => key_reads k)).bind (f := fun l q => rtx6 { d with notes := l, bal := 0 } q) s6)
  have s4 : Reads (rtx4 { d with anchor := zeroKey, nulls := [], notes := [], bal := 0 }) d (compactL d.nulls.length ++ ((if d.nulls.length = 0 then [] else d.anchor.val) ++ (d.nulls.flatMap (fun k => k.val) ++ (compactL d.notes.length ++ (d.notes.flatMap (fun k => k.val) ++ le 8 (u64N d.bal)))))) :=
    (many_reads m3).bind (f := fun n r => thenR (anchorR n r) fun k q => thenR (listR keyR n q) fun l q => rtx5 { d with anchor := k, nulls := l, notes := [], bal := 0 } q)
      ((anchor_reads ha).bind (f := fun k q => thenR (listR keyR d.nulls.length q) fun l q => rtx5 { d with anchor := k, nulls := l, notes := [], bal := 0 } q)
        ((list_reads d.nulls (f := fun k => k.val) (fun k _ => key_reads k)).bind (f := fun l q => rtx5 { d with nulls := l, notes := [], bal := 0 } q) s5))
  have s3 : Reads (rtx3 { d with outs := [], anchor := zeroKey, nulls := [], notes := [], bal := 0 }) d _ :=
    (many_reads m2).bind (f := fun n r => thenR (listR outR n r) fun l q => rtx4 { d with outs := l, anchor := zeroKey, nulls := [], notes := [], bal := 0 } q)
      ((list_reads d.outs (f := outB) (fun p hp => out_reads (h.val p hp))).bind (f := fun l q => rtx4 { d with outs := l, anchor := zeroKey, nulls := [], notes := [], bal := 0 } q) s4)
  have s2 : Reads (rtx2 { d with ins := [], outs := [], anchor := zeroKey, nulls := [], notes := [], bal := 0 }) d _ :=
    (many_reads m1).bind (f := fun n r => thenR (listR ptR n r) fun l q => rtx3 { d with ins := l, outs := [], anchor := zeroKey, nulls := [], notes := [], bal := 0 } q)
      ((list_reads d.ins (f := ptB) (fun p hp => pt_reads (h.idx p hp))).bind (f := fun l q => rtx3 { d with ins := l, outs := [], anchor := zeroKey, nulls := [], notes := [], bal := 0 } q) s3)
  have he := h.exp
  have s1 : Reads (rtx1 zeroD) d (le 4 d.exp.toNat ++ _) :=
    (num_reads (k := 4) (n := d.exp.toNat) (by omega)).bind (f := fun (n : Nat) r => rtx2 { zeroD with exp := (n : Int) } r) (by
      have e : ((d.exp.toNat : Nat) : Int) = d.exp := by omega
      show Reads (rtx2 { zeroD with exp := ((d.exp.toNat : Nat) : Int) }) d _
      rw [e]
      exact s2)
  unfold txR
  exact s1

/-! ### What is read was written so -/
theorem num_one {k n : Nat} {s r : List UInt8} (h : numR k s = .ok (n, r)) : s = le k n ++ r ∧ n < 256 ^ k := by
  refine ⟨?_, (numR_le h).2⟩
  by_cases hl : s.length < k
  · rw [numR_short hl] at h; cases h
  · rw [numR_well hl] at h
    injection h with h
    injection h with h1 h2
    subst h1 h2
    have h3 := le_unle (s.take k)
    rw [List.length_take, Nat.min_eq_left (by omega)] at h3
    rw [h3, List.take_append_drop]
theorem key_one {k : Key} {s r : List UInt8} (h : keyR s = .ok (k, r)) : s = k.val ++ r := by
  by_cases hl : 32 ≤ s.length
  · rw [keyR_well hl] at h
    injection h with h
    injection h with h1 h2
    subst h1 h2
    exact (List.take_append_drop 32 s).symm
  · rw [keyR_short hl] at h; cases h
theorem many_one {n : Nat} {s r : List UInt8} (h : manyR s = .ok (n, r)) : s = compactL n ++ r ∧ n ≤ 40 := by
  refine ⟨?_, (manyR_le h).2⟩
  by_cases h0 : (readV s).2.2 = 0
  · by_cases h2 : 40 < (readV s).1
    · rw [manyR_many h0 h2] at h; cases h
    · rw [manyR_well h0 h2] at h
      injection h with h
      injection h with h1 h3
      have he : (readL s).2.2 = 0 := by
        have : errOf (readL s).2.2 = 0 := h0
        unfold errOf at this
        split at this
        · assumption
        · split at this <;> omega
      have h4 : readL s = (n, r, 0) := by
        rw [← h1, ← h3, ← he]; rfl
      exact (compactL_readL h4).1.symm
  · rw [manyR_err h0] at h; cases h
theorem pt_one {p : PointV} {s r : List UInt8} (h : ptR s = .ok (p, r)) : s = ptB p ++ r ∧ (0 ≤ p.idx ∧ p.idx ≤ 4294967295) := by
  unfold ptR at h
  obtain ⟨k, q, h1, h⟩ := thenR_inv h
  obtain ⟨n, q', h2, h⟩ := thenR_inv h
  injection h with h
  injection h with h3 h4
  subst h3 h4
  obtain ⟨h5, h6⟩ := num_one h2
  refine ⟨?_, Int.natCast_nonneg _, by show (n : Int) ≤ _; omega⟩
  rw [key_one h1, h5]
  unfold ptB
  rw [List.append_assoc, Int.toNat_natCast]
theorem out_one {p : OutV} {s r : List UInt8} (h : outR s = .ok (p, r)) : s = outB p ++ r ∧ (-9223372036854775808 ≤ p.value ∧ p.value ≤ 9223372036854775807) := by
  unfold outR at h
  obtain ⟨n, q, h1, h⟩ := thenR_inv h
  obtain ⟨k, q', h2, h⟩ := thenR_inv h
  injection h with h
  injection h with h3 h4
  subst h3 h4
  obtain ⟨h5, h6⟩ := num_one h1
  refine ⟨?_, by show _ ≤ i64N n ∧ i64N n ≤ _; unfold i64N wrap64; omega⟩
  rw [h5, key_one h2]
  unfold outB
  rw [List.append_assoc, u64_back (by omega)]
theorem list_one {α : Type} {p : List UInt8 → Got α} {f : α → List UInt8} {Q : α → Prop} (hp : ∀ s x r, p s = .ok (x, r) → s = f x ++ r ∧ Q x) : ∀ (n : Nat) (s : List UInt8) (l : List α) (r : List UInt8), listR p n s = .ok (l, r) → s = l.flatMap f ++ r ∧ l.length = n ∧ ∀ x ∈ l, Q x
  | 0, s, l, r, h => by
    injection h with h
    injection h with h1 h2
    subst h1 h2
    exact ⟨rfl, rfl, fun x hx => nomatch hx⟩
  | n + 1, s, l, r, h => by
    obtain ⟨x, q, h1, h⟩ := thenR_inv h
    obtain ⟨m, q', h2, h⟩ := thenR_inv h
    injection h with h
    injection h with h3 h4
    subst h3 h4
    obtain ⟨e1, e2⟩ := hp _ _ _ h1
    obtain ⟨e3, e4, e5⟩ := list_one hp n _ _ _ h2
    refine ⟨by rw [e1, e3, List.flatMap_cons, List.append_assoc], by rw [List.length_cons, e4], fun y hy => ?_⟩
    rcases List.mem_cons.1 hy with rfl | hy
    · exact e2
    · exact e5 y hy
theorem anchor_one {n : Nat} {k : Key} {s r : List UInt8} (h : anchorR n s = .ok (k, r)) : s = (if n = 0 then [] else k.val) ++ r ∧ (n = 0 → k = zeroKey) := by
  unfold anchorR at h
  by_cases h0 : 0 < n
  · rw [if_pos h0] at h
    rw [if_neg (by omega)]
    exact ⟨key_one h, fun h => by omega⟩
  · rw [if_neg h0] at h
    injection h with h
    injection h with h1 h2
    rw [if_pos (by omega)]
    exact ⟨h2 ▸ rfl, fun _ => h1.symm⟩
theorem tx_one {d : TxD} {s r : List UInt8} (h : txR s = .ok (d, r)) : s = encB d ++ r ∧ TxOK d ∧ wellB d := by
  unfold txR at h
  unfold rtx1 at h
  obtain ⟨ne, q1, h1, h⟩ := thenR_inv h
  unfold rtx2 at h
  obtain ⟨ni, q2, h2, h⟩ := thenR_inv h
  obtain ⟨li, q3, h3, h⟩ := thenR_inv h
  unfold rtx3 at h
  obtain ⟨no, q4, h4, h⟩ := thenR_inv h
  obtain ⟨lo, q5, h5, h⟩ := thenR_inv h
  unfold rtx4 at h
  obtain ⟨nn, q6, h6, h⟩ := thenR_inv h
  obtain ⟨a, q7, h7, h⟩ := thenR_inv h
  obtain ⟨ln, q8, h8, h⟩ := thenR_inv h
  unfold rtx5 at h
  obtain ⟨nt, q9, h9, h⟩ := thenR_inv h
  obtain ⟨lt, q10, h10, h⟩ := thenR_inv h
  unfold rtx6 at h
  obtain ⟨nb, q11, h11, h⟩ := thenR_inv h
  injection h with h
  injection h with hd hr
  subst hr
  obtain ⟨e1, f1⟩ := num_one h1
  obtain ⟨e2, f2⟩ := many_one h2
  obtain ⟨e3, f3, g3⟩ := list_one (fun _ _ _ h => pt_one h) _ _ _ _ h3
  obtain ⟨e4, f4⟩ := many_one h4
  obtain ⟨e5, f5, g5⟩ := list_one (fun _ _ _ h => out_one h) _ _ _ _ h5
  obtain ⟨e6, f6⟩ := many_one h6
  obtain ⟨e7, f7⟩ := anchor_one h7
  obtain ⟨e8, f8, g8⟩ := list_one (f := fun k : Key => k.val) (Q := fun _ => True) (fun _ _ _ h => ⟨key_one h, trivial⟩) _ _ _ _ h8
  obtain ⟨e9, f9⟩ := many_one h9
  obtain ⟨e10, f10, g10⟩ := list_one (f := fun k : Key => k.val) (Q := fun _ => True) (fun _ _ _ h => ⟨key_one h, trivial⟩) _ _ _ _ h10
  obtain ⟨e11, f11⟩ := num_one h11
  subst hd
  refine ⟨?_, ⟨g3, g5, ⟨Int.natCast_nonneg _, by show (ne : Int) ≤ _; omega⟩, by show _ ≤ i64N nb ∧ i64N nb ≤ _; unfold i64N wrap64; omega⟩, ⟨?_, ?_⟩⟩
  · rw [encB_parts]
    simp only [Int.toNat_natCast, f3, f5, f8, f10, u64_back (show nb < 18446744073709551616 by omega)]
    rw [e1, e2, e3, e4, e5, e6, e7, e8, e9, e10, e11]
    simp only [List.append_assoc]
  · unfold manyB
    simp only [f3, f5, f8, f10, Bool.or_eq_false_iff, decide_eq_false_iff_not]
    omega
  · intro h0
    exact f7 (by rw [← f8]; exact h0)

/-- Whole bytes as a transaction. -/
@[irreducible] def decR (s : List UInt8) : Except Int TxD :=
  match txR s with
  | .error x => .error x
  | .ok (d, r) => if r = [] then .ok d else .error 50
theorem decR_err {s : List UInt8} {x : Int} (h : txR s = .error x) : decR s = .error x := by unfold decR; rw [h]
theorem decR_ok {s : List UInt8} {d : TxD} (h : txR s = .ok (d, [])) : decR s = .ok d := by unfold decR; rw [h]; exact if_pos rfl
theorem decR_more {s r : List UInt8} {d : TxD} (h : txR s = .ok (d, r)) (hr : r ≠ []) : decR s = .error 50 := by unfold decR; rw [h]; exact if_neg hr
theorem decR_back {d : TxD} (h : TxOK d) (hw : wellB d) : decR (encB d) = .ok d := decR_ok (by have := (tx_reads h hw).back []; rwa [List.append_nil] at this)
theorem decR_short {d : TxD} (h : TxOK d) (hw : wellB d) {i : Nat} (hi : i < (encB d).length) : decR ((encB d).take i) = .error 30 := decR_err ((tx_reads h hw).short i hi)
theorem decR_longer {d : TxD} (h : TxOK d) (hw : wellB d) (b : UInt8) : decR (encB d ++ [b]) = .error 50 := decR_more ((tx_reads h hw).back [b]) (by simp)
theorem decR_one {d : TxD} {s : List UInt8} (h : decR s = .ok d) : s = encB d ∧ TxOK d ∧ wellB d := by
  unfold decR at h
  split at h
  · cases h
  · rename_i d' r hd
    split at h
    · rename_i hr
      injection h with h
      subst h hr
      obtain ⟨h1, h2, h3⟩ := tx_one hd
      rw [List.append_nil] at h1
      exact ⟨h1, h2, h3⟩
    · cases h
/-- Two transactions with the same bytes are the same. -/
theorem encB_inj {d e : TxD} (h : TxOK d) (hw : wellB d) (h' : TxOK e) (hw' : wellB e) (he : encB d = encB e) : d = e := by
  have h1 := decR_back h hw
  rw [he, decR_back h' hw'] at h1
  injection h1 with h1
  exact h1.symm

end Go.Proofs.Ytahkiabpjfcfdaa
