/- A block's reader, in plain words; what was written is read. -/
import Derived.Test.YtahkiabpjfcfdaaBlkDec2
import Derived.Test.YtahkiabpjfcfdaaBlkSizes
namespace Go.Proofs.Ytahkiabpjfcfdaa
open Go.RowKit
set_option linter.unusedVariables false
set_option linter.unusedSimpArgs false
set_option maxRecDepth 100000

@[irreducible] def cmpR (s : List UInt8) : Got Nat := if cmpX (readV s).1 (readV s).2.2 = 0 then .ok ((readV s).1, (readV s).2.1) else .error (cmpX (readV s).1 (readV s).2.2)
theorem cmpR_ok {s r : List UInt8} {m : Nat} {x : Int} (h : readV s = (m, r, x)) (hx : cmpX m x = 0) : cmpR s = .ok (m, r) := by unfold cmpR; rw [h]; exact if_pos hx
theorem cmpR_err {s r : List UInt8} {m : Nat} {x : Int} (h : readV s = (m, r, x)) (hx : ¬ cmpX m x = 0) : cmpR s = .error (cmpX m x) := by unfold cmpR; rw [h]; exact if_neg hx
theorem cmpX_zero {m : Nat} {x : Int} (h : cmpX m x = 0) : x = 0 ∧ 0 < m ∧ m ≤ 30 := by
  unfold cmpX at h
  split at h
  · rename_i hx
    split at h
    · cases h
    · split at h
      · cases h
      · exact ⟨hx, by omega, by omega⟩
  · rename_i hx; exact absurd h hx
theorem cmpR_inv {s r : List UInt8} {m : Nat} (h : cmpR s = .ok (m, r)) : readV s = (m, r, 0) ∧ 0 < m ∧ m ≤ 30 := by
  obtain ⟨m', r', x, hv⟩ : ∃ m r x, readV s = (m, r, x) := ⟨_, _, _, rfl⟩
  by_cases hx : cmpX m' x = 0
  · rw [cmpR_ok hv hx] at h
    injection h with h
    injection h with h1 h2
    subst h1 h2
    obtain ⟨rfl, h3, h4⟩ := cmpX_zero hx
    exact ⟨hv, h3, h4⟩
  · rw [cmpR_err hv hx] at h; cases h
theorem cmpR_le {s r : List UInt8} {m : Nat} (h : cmpR s = .ok (m, r)) : r.length ≤ s.length := by
  have h1 := (cmpR_inv h).1
  have := readL_le s
  have h2 : (readV s).2.1 = (readL s).2.1 := rfl
  rw [h1] at h2
  rw [← h2] at this
  exact this

/-- A block and what is left behind it. -/
@[irreducible] def blkP (s : List UInt8) : Got BlkD := thenR (keyR s) fun p r1 => thenR (keyR r1) fun q r2 => thenR (numR 4 r2) fun n r3 => thenR (cmpR r3) fun m r4 => thenR (listR txR m r4) fun l r5 => .ok (⟨p, q, n, l⟩, r5)
/-- The block that these bytes are, or the errno. -/
@[irreducible] def blkRd (s : List UInt8) : Except Int BlkD := match blkP s with | .ok (d, r) => if r = [] then .ok d else .error 50 | .error x => .error x
theorem blkRd_err {s : List UInt8} {x : Int} (h : blkP s = .error x) : blkRd s = .error x := by unfold blkRd; rw [h]
theorem blkRd_ok {s : List UInt8} {d : BlkD} (h : blkP s = .ok (d, [])) : blkRd s = .ok d := by unfold blkRd; rw [h]; exact if_pos rfl
theorem blkRd_more {s r : List UInt8} {d : BlkD} (h : blkP s = .ok (d, r)) (hr : r ≠ []) : blkRd s = .error 50 := by unfold blkRd; rw [h]; exact if_neg hr
/-- The stages. -/
structure Sg1 (s : List UInt8) (p : Key) (r : List UInt8) : Prop where
  h1 : keyR s = .ok (p, r)
structure Sg2 (s : List UInt8) (p q : Key) (r : List UInt8) : Prop where
  h : ∃ r1, keyR s = .ok (p, r1) ∧ keyR r1 = .ok (q, r)
structure Sg3 (s : List UInt8) (p q : Key) (n : Nat) (r : List UInt8) : Prop where
  h : ∃ r2, Sg2 s p q r2 ∧ numR 4 r2 = .ok (n, r)
structure Sg4 (s : List UInt8) (p q : Key) (n m : Nat) (r : List UInt8) : Prop where
  h : ∃ r3, Sg3 s p q n r3 ∧ cmpR r3 = .ok (m, r)
theorem Sg1.le {s r : List UInt8} {p : Key} (h : Sg1 s p r) : r.length ≤ s.length := keyR_le h.h1
theorem Sg2.le {s r : List UInt8} {p q : Key} (h : Sg2 s p q r) : r.length ≤ s.length := by obtain ⟨r1, h1, h2⟩ := h.h; have := keyR_le h1; have := keyR_le h2; omega
theorem Sg3.le {s r : List UInt8} {p q : Key} {n : Nat} (h : Sg3 s p q n r) : r.length ≤ s.length := by obtain ⟨r1, h1, h2⟩ := h.h; have := h1.le; have := (numR_le h2).1; omega
theorem Sg4.le {s r : List UInt8} {p q : Key} {n m : Nat} (h : Sg4 s p q n m r) : r.length ≤ s.length := by obtain ⟨r1, h1, h2⟩ := h.h; have := h1.le; have := cmpR_le h2; omega
theorem blkP_e0 {s : List UInt8} {x : Int} (h : keyR s = .error x) : blkRd s = .error x := blkRd_err (by unfold blkP; rw [h]; rfl)
theorem blkP_1 {s r : List UInt8} {p : Key} (h : Sg1 s p r) : blkP s = thenR (keyR r) fun q r2 => thenR (numR 4 r2) fun n r3 => thenR (cmpR r3) fun m r4 => thenR (listR txR m r4) fun l r5 => .ok (⟨p, q, n, l⟩, r5) := by unfold blkP; rw [h.h1]; rfl
theorem blkP_e1 {s r : List UInt8} {p : Key} {x : Int} (h : Sg1 s p r) (hx : keyR r = .error x) : blkRd s = .error x := blkRd_err (by rw [blkP_1 h, hx]; rfl)
theorem blkP_2 {s r : List UInt8} {p q : Key} (h : Sg2 s p q r) : blkP s = thenR (numR 4 r) fun n r3 => thenR (cmpR r3) fun m r4 => thenR (listR txR m r4) fun l r5 => .ok (⟨p, q, n, l⟩, r5) := by
  obtain ⟨r1, h1, h2⟩ := h.h; rw [blkP_1 ⟨h1⟩, h2]; rfl
theorem blkP_e2 {s r : List UInt8} {p q : Key} {x : Int} (h : Sg2 s p q r) (hx : numR 4 r = .error x) : blkRd s = .error x := blkRd_err (by rw [blkP_2 h, hx]; rfl)
theorem blkP_3 {s r : List UInt8} {p q : Key} {n : Nat} (h : Sg3 s p q n r) : blkP s = thenR (cmpR r) fun m r4 => thenR (listR txR m r4) fun l r5 => .ok (⟨p, q, n, l⟩, r5) := by
  obtain ⟨r1, h1, h2⟩ := h.h; rw [blkP_2 h1, h2]; rfl
theorem blkP_e3 {s r : List UInt8} {p q : Key} {n : Nat} {x : Int} (h : Sg3 s p q n r) (hx : cmpR r = .error x) : blkRd s = .error x := blkRd_err (by rw [blkP_3 h, hx]; rfl)
theorem blkP_4 {s r : List UInt8} {p q : Key} {n m : Nat} (h : Sg4 s p q n m r) : blkP s = thenR (listR txR m r) fun l r5 => .ok (⟨p, q, n, l⟩, r5) := by
  obtain ⟨r1, h1, h2⟩ := h.h; rw [blkP_3 h1, h2]; rfl
theorem blkP_e4 {s r : List UInt8} {p q : Key} {n m : Nat} {x : Int} (h : Sg4 s p q n m r) (hx : listR txR m r = .error x) : blkRd s = .error x := blkRd_err (by rw [blkP_4 h, hx]; rfl)
theorem blkP_m4 {s r r5 : List UInt8} {p q : Key} {n m : Nat} {l : List TxD} (h : Sg4 s p q n m r) (hx : listR txR m r = .ok (l, r5)) (hr : r5 ≠ []) : blkRd s = .error 50 := blkRd_more (by rw [blkP_4 h, hx]; rfl) hr
theorem blkP_ok {s r : List UInt8} {p q : Key} {n m : Nat} {l : List TxD} (h : Sg4 s p q n m r) (hx : listR txR m r = .ok (l, [])) : blkRd s = .ok ⟨p, q, n, l⟩ := blkRd_ok (by rw [blkP_4 h, hx]; rfl)
theorem Sg3.lt {s r : List UInt8} {p q : Key} {n : Nat} (h : Sg3 s p q n r) : n < 4294967296 := by obtain ⟨r1, _, h2⟩ := h.h; exact (numR_le h2).2
theorem Sg4.few {s r : List UInt8} {p q : Key} {n m : Nat} (h : Sg4 s p q n m r) : 0 < m ∧ m ≤ 30 ∧ n < 4294967296 := by obtain ⟨r1, h1, h2⟩ := h.h; have := cmpR_inv h2; exact ⟨this.2.1, this.2.2, h1.lt⟩

/-- What Decode comes to. -/
def BlkTo (W : World) : Except Int BlkD → Ending → World → Prop
  | .ok d, e, w' => ∃ v qs, e = .returned (.tuple #[.agg (blkC v).toArray, .int .i64 0]) ∧ BlkL w' v qs d ∧ Below W.heap.size W w'
  | .error x, e, w' => e = .returned (.tuple #[.agg (blkC zeroBlk).toArray, .int .i64 x]) ∧ ¬ x = 0 ∧ Below W.heap.size W w'
theorem BlkTo.err {W w' : World} {o : Except Int BlkD} {x : Int} (h : o = .error x) (hx : ¬ x = 0) (hb : Below W.heap.size W w') : BlkTo W o (.returned (.tuple #[.agg (blkC zeroBlk).toArray, .int .i64 x])) w' := by subst h; exact ⟨rfl, hx, hb⟩
theorem BlkTo.mk {W w' : World} {o : Except Int BlkD} {d : BlkD} {v : BlkV} {qs : List (TxV × TxD)} (h : o = .ok d) (hL : BlkL w' v qs d) (hb : Below W.heap.size W w') : BlkTo W o (.returned (.tuple #[.agg (blkC v).toArray, .int .i64 0])) w' := by subst h; exact ⟨v, qs, rfl, hL, hb⟩
theorem TL.blk {B : Nat} {w : World} {u : Option Addr} {m c n : Nat} {p q : Key} {qs : List (TxV × TxD)} (h : TL B w (.slice u m c) qs) (hn : n < 4294967296) : BlkL w ⟨p, q, n, ⟨u, m, c⟩⟩ qs ⟨p, q, n, qs.map (·.2)⟩ :=
  ⟨h.own.sl'.2, fun q hq => (h.each q hq).1, rfl, rfl, rfl, ⟨rfl, by show (0 : Int) ≤ n; omega, by show (n : Int) ≤ 4294967295; omega⟩⟩
end Go.Proofs.Ytahkiabpjfcfdaa
