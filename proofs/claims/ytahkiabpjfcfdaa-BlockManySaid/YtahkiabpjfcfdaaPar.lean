/- Readers of bytes, in plain words: what each makes of bytes, or its errno. No program. -/
import Derived.Test.YtahkiabpjfcfdaaBase2
namespace Go.Proofs.Ytahkiabpjfcfdaa
set_option maxRecDepth 100000
open Go.RowKit
set_option linter.unusedVariables false

theorem key_row' {w : World} {b : Nat} {k : Key} {t : TypeId} {fr : Nat × Nat} (hb : w.heap[b]? = some (.cells (keyC k).toArray t fr)) : rowOf w b 0 32 = some (keyC k) := by
  rw [rowOf_block hb 0 32 (by simp [keyC_length])]
  congr 1; simp
  exact List.take_of_length_le (by rw [keyC_length]; exact Nat.le_refl _)

abbrev Got (α : Type) := Except Int (α × List UInt8)
def thenR {α β : Type} (o : Got α) (f : α → List UInt8 → Got β) : Got β :=
  match o with
  | .ok (x, r) => f x r
  | .error e => .error e
theorem thenR_ok {α β : Type} (x : α) (r : List UInt8) (f : α → List UInt8 → Got β) : thenR (.ok (x, r)) f = f x r := rfl
theorem thenR_error {α β : Type} (e : Int) (f : α → List UInt8 → Got β) : thenR (.error e) f = .error e := rfl
theorem thenR_inv {α β : Type} {o : Got α} {f : α → List UInt8 → Got β} {y : β × List UInt8} (h : thenR o f = .ok y) : ∃ x r, o = .ok (x, r) ∧ f x r = .ok y := by
  cases o with
  | error e => cases h
  | ok q => obtain ⟨x, r⟩ := q; exact ⟨x, r, rfl, h⟩

@[irreducible] def numR (k : Nat) (s : List UInt8) : Got Nat := if s.length < k then .error 30 else .ok (unle (s.take k), s.drop k)
@[irreducible] def keyR (s : List UInt8) : Got Key := if h : 32 ≤ s.length then .ok (keyOf s h, s.drop 32) else .error 30
@[irreducible] def manyR (s : List UInt8) : Got Nat := if (readV s).2.2 = 0 then (if 40 < (readV s).1 then .error 51 else .ok ((readV s).1, (readV s).2.1)) else .error (readV s).2.2
def i64N (n : Nat) : Int := wrap64 (n : Int)
@[irreducible] def ptR (s : List UInt8) : Got PointV := thenR (keyR s) fun k r => thenR (numR 4 r) fun n q => .ok (⟨k, (n : Int)⟩, q)
@[irreducible] def outR (s : List UInt8) : Got OutV := thenR (numR 8 s) fun n r => thenR (keyR r) fun k q => .ok (⟨i64N n, k⟩, q)
def listR {α : Type} (p : List UInt8 → Got α) : Nat → List UInt8 → Got (List α)
  | 0, s => .ok ([], s)
  | n + 1, s => thenR (p s) fun x r => thenR (listR p n r) fun l q => .ok (x :: l, q)
/-- Behind a list that has been read. -/
def behind {α : Type} (l : List α) (o : Got (List α)) : Got (List α) := thenR o fun m r => .ok (l ++ m, r)
theorem behind_nil {α : Type} (o : Got (List α)) : behind [] o = o := by
  cases o with
  | error e => rfl
  | ok q => rfl
theorem behind_ok {α : Type} {p : List UInt8 → Got α} {n : Nat} {s r : List UInt8} {x : α} (l : List α) (h : p s = .ok (x, r)) : behind l (listR p (n + 1) s) = behind (l ++ [x]) (listR p n r) := by
  rw [listR, h, thenR_ok]
  cases listR p n r with
  | error e => rfl
  | ok q => simp [behind, thenR]
theorem behind_error {α : Type} {p : List UInt8 → Got α} {n : Nat} {s : List UInt8} {e : Int} (l : List α) (h : p s = .error e) : behind l (listR p (n + 1) s) = .error e := by
  rw [listR, h]; rfl
theorem behind_zero {α : Type} (p : List UInt8 → Got α) (s : List UInt8) (l : List α) : behind l (listR p 0 s) = .ok (l, s) := by
  simp [listR, behind, thenR]

def anchorR (n : Nat) (s : List UInt8) : Got Key := if 0 < n then keyR s else .ok (zeroKey, s)
/-- The stages of a transaction's reader. -/
def rtx6 (d : TxD) (s : List UInt8) : Got TxD := thenR (numR 8 s) fun n r => .ok ({ d with bal := i64N n }, r)
def rtx5 (d : TxD) (s : List UInt8) : Got TxD := thenR (manyR s) fun n r => thenR (listR keyR n r) fun l q => rtx6 { d with notes := l } q
def rtx4 (d : TxD) (s : List UInt8) : Got TxD := thenR (manyR s) fun n r => thenR (anchorR n r) fun k q => thenR (listR keyR n q) fun l q => rtx5 { d with anchor := k, nulls := l } q
def rtx3 (d : TxD) (s : List UInt8) : Got TxD := thenR (manyR s) fun n r => thenR (listR outR n r) fun l q => rtx4 { d with outs := l } q
def rtx2 (d : TxD) (s : List UInt8) : Got TxD := thenR (manyR s) fun n r => thenR (listR ptR n r) fun l q => rtx3 { d with ins := l } q
def rtx1 (d : TxD) (s : List UInt8) : Got TxD := thenR (numR 4 s) fun n r => rtx2 { d with exp := n } r
def zeroD : TxD := ⟨0, [], [], zeroKey, [], [], 0⟩
@[irreducible] def txR (s : List UInt8) : Got TxD := rtx1 zeroD s

theorem numR_short {k : Nat} {s : List UInt8} (h : s.length < k) : numR k s = .error 30 := by unfold numR; rw [if_pos h]
theorem numR_well {k : Nat} {s : List UInt8} (h : ¬ s.length < k) : numR k s = .ok (unle (s.take k), s.drop k) := by unfold numR; rw [if_neg h]
theorem keyR_short {s : List UInt8} (h : ¬ 32 ≤ s.length) : keyR s = .error 30 := by unfold keyR; rw [dif_neg h]
theorem keyR_well {s : List UInt8} (h : 32 ≤ s.length) : keyR s = .ok (keyOf s h, s.drop 32) := by unfold keyR; rw [dif_pos h]
theorem manyR_err {s : List UInt8} (h : ¬ (readV s).2.2 = 0) : manyR s = .error (readV s).2.2 := by unfold manyR; rw [if_neg h]
theorem manyR_many {s : List UInt8} (h : (readV s).2.2 = 0) (h2 : 40 < (readV s).1) : manyR s = .error 51 := by unfold manyR; rw [if_pos h, if_pos h2]
theorem manyR_well {s : List UInt8} (h : (readV s).2.2 = 0) (h2 : ¬ 40 < (readV s).1) : manyR s = .ok ((readV s).1, (readV s).2.1) := by unfold manyR; rw [if_pos h, if_neg h2]

/-! ### No reader makes more bytes -/
theorem numR_le {k n : Nat} {s r : List UInt8} (h : numR k s = .ok (n, r)) : r.length ≤ s.length ∧ n < 256 ^ k := by
  by_cases hl : s.length < k
  · rw [numR_short hl] at h; cases h
  · rw [numR_well hl] at h
    injection h with h
    injection h with h1 h2
    subst h1 h2
    have := unle_lt (s.take k)
    rw [List.length_take, Nat.min_eq_left (by omega)] at this
    exact ⟨by simp, this⟩
theorem keyR_le {k : Key} {s r : List UInt8} (h : keyR s = .ok (k, r)) : r.length ≤ s.length := by
  by_cases hl : 32 ≤ s.length
  · rw [keyR_well hl] at h
    injection h with h
    injection h with h1 h2
    subst h2
    simp
  · rw [keyR_short hl] at h; cases h
theorem readL_le (s : List UInt8) : (readL s).2.1.length ≤ s.length := by
  cases s with
  | nil => exact Nat.le_refl _
  | cons b l =>
    rw [readL]
    split
    · simp
    · split
      · simp
      · split
        · simp
        · simp; omega
theorem manyR_le {n : Nat} {s r : List UInt8} (h : manyR s = .ok (n, r)) : r.length ≤ s.length ∧ n ≤ 40 := by
  by_cases h0 : (readV s).2.2 = 0
  · by_cases h2 : 40 < (readV s).1
    · rw [manyR_many h0 h2] at h; cases h
    · rw [manyR_well h0 h2] at h
      injection h with h
      injection h with h1 h3
      subst h1 h3
      exact ⟨readL_le s, by omega⟩
  · rw [manyR_err h0] at h; cases h
theorem ptR_le {x : PointV} {s r : List UInt8} (h : ptR s = .ok (x, r)) : r.length ≤ s.length := by
  unfold ptR at h
  obtain ⟨k, q, h1, h⟩ := thenR_inv h
  obtain ⟨n, q', h2, h⟩ := thenR_inv h
  injection h with h
  injection h with h3 h4
  subst h4
  have := keyR_le h1
  have := (numR_le h2).1
  omega
theorem outR_le {x : OutV} {s r : List UInt8} (h : outR s = .ok (x, r)) : r.length ≤ s.length := by
  unfold outR at h
  obtain ⟨k, q, h1, h⟩ := thenR_inv h
  obtain ⟨n, q', h2, h⟩ := thenR_inv h
  injection h with h
  injection h with h3 h4
  subst h4
  have := keyR_le h2
  have := (numR_le h1).1
  omega
theorem listR_le {α : Type} {p : List UInt8 → Got α} (hp : ∀ s x r, p s = .ok (x, r) → r.length ≤ s.length) : ∀ (n : Nat) (s : List UInt8) (l : List α) (r : List UInt8), listR p n s = .ok (l, r) → r.length ≤ s.length ∧ l.length = n
  | 0, s, l, r, h => by
    injection h with h
    injection h with h1 h2
    subst h1 h2
    exact ⟨Nat.le_refl _, rfl⟩
  | n + 1, s, l, r, h => by
    obtain ⟨x, q, h1, h⟩ := thenR_inv h
    obtain ⟨m, q', h2, h⟩ := thenR_inv h
    injection h with h
    injection h with h3 h4
    subst h3 h4
    have := hp _ _ _ h1
    have := listR_le hp n _ _ _ h2
    exact ⟨by omega, by simp [this.2]⟩
theorem anchorR_le {n : Nat} {k : Key} {s r : List UInt8} (h : anchorR n s = .ok (k, r)) : r.length ≤ s.length := by
  unfold anchorR at h
  split at h
  · exact keyR_le h
  · injection h with h
    injection h with h1 h2
    subst h2
    exact Nat.le_refl _

end Go.Proofs.Ytahkiabpjfcfdaa
