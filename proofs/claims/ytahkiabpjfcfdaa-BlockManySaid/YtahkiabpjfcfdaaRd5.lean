/- Package tx: Read. -/
import Derived.Test.YtahkiabpjfcfdaaRd4
import Derived.Test.YtahkiabpjfcfdaaRef5
namespace Go.Proofs.Ytahkiabpjfcfdaa
open Go.RowKit
set_option linter.unusedVariables false
set_option linter.unusedSimpArgs false
set_option maxRecDepth 100000

/-! ### Plain words -/
theorem listR_all {α : Type} {p : List UInt8 → Got α} {Q : α → Prop} (hp : ∀ s x r, p s = .ok (x, r) → Q x) : ∀ (n : Nat) (s : List UInt8) (l : List α) (r : List UInt8), listR p n s = .ok (l, r) → ∀ x ∈ l, Q x
  | 0, s, l, r, h => by
    injection h with h
    injection h with h1 h2
    subst h1
    simp
  | n + 1, s, l, r, h => by
    obtain ⟨x, q, h1, h⟩ := thenR_inv h
    obtain ⟨m, q', h2, h⟩ := thenR_inv h
    injection h with h
    injection h with h3 h4
    subst h3
    intro y hy
    rcases List.mem_cons.1 hy with rfl | hy
    · exact hp _ _ _ h1
    · exact listR_all hp n _ _ _ h2 y hy
theorem ptR_idx {s r : List UInt8} {p : PointV} (h : ptR s = .ok (p, r)) : 0 ≤ p.idx ∧ p.idx ≤ 4294967295 := by
  unfold ptR at h
  obtain ⟨k, q, h1, h⟩ := thenR_inv h
  obtain ⟨n, q', h2, h⟩ := thenR_inv h
  injection h with h
  injection h with h3 h4
  subst h3
  have := (numR_le h2).2
  exact ⟨Int.natCast_nonneg _, by show (n : Int) ≤ _; omega⟩
theorem i64N_range (n : Nat) : -9223372036854775808 ≤ i64N n ∧ i64N n ≤ 9223372036854775807 := by unfold i64N wrap64; omega
theorem outR_val {s r : List UInt8} {p : OutV} (h : outR s = .ok (p, r)) : -9223372036854775808 ≤ p.value ∧ p.value ≤ 9223372036854775807 := by
  unfold outR at h
  obtain ⟨k, q, h1, h⟩ := thenR_inv h
  obtain ⟨n, q', h2, h⟩ := thenR_inv h
  injection h with h
  injection h with h3 h4
  subst h3
  exact i64N_range _

theorem txC_set0 (t : TxV) (v : Int) : (txC t).set 0 (.int .u32 v) = txC { t with exp := v } := by unfold txC; rfl
theorem txC_set37 (t : TxV) (v : Int) : (txC t).set 37 (.int .i64 v) = txC { t with bal := v } := by
  unfold txC; exact congrArg (fun l => _ :: _ :: _ :: l) (set_mid _ _ 2 _ (keyC_length _))
theorem heap_setCell_txC {w : World} {b : Nat} {t : TxV} {ty : TypeId} (h : w.heap[b]? = some (.cells (txC t).toArray ty (0, 0))) (i : Nat) (v : Value) : (w.setCell ⟨b, i, none⟩ v).heap[b]? = some (.cells ((txC t).set i v).toArray ty (0, 0)) := by
  simp only [World.setCell, Array.getElem?_modify, if_true, h, Option.map_some]
  simp
/-- The anchor stored. -/
theorem heap_setCells_anchor {w : World} {b : Nat} {t : TxV} {ty : TypeId} (h : w.heap[b]? = some (.cells (txC t).toArray ty (0, 0))) (k : Key) : (w.setCells b 3 (keyC k)).heap[b]? = some (.cells (txC { t with anchor := k }).toArray ty (0, 0)) := by
  have hlt : b < w.heap.size := (Array.getElem?_eq_some_iff.1 h).1
  have e : ∀ t : TxV, txC t = [.int .u32 t.exp, .slice t.ins.a t.ins.len t.ins.cap, .slice t.outs.a t.outs.len t.outs.cap] ++ keyC t.anchor ++ [.slice t.nulls.a t.nulls.len t.nulls.cap, .slice t.notes.a t.notes.len t.notes.cap, .int .i64 t.bal] := by
    intro t; unfold txC; rfl
  rw [e t] at h
  have := setCells_append b (keyC k) w [.int .u32 t.exp, .slice t.ins.a t.ins.len t.ins.cap, .slice t.outs.a t.outs.len t.outs.cap] (keyC t.anchor) [.slice t.nulls.a t.nulls.len t.nulls.cap, .slice t.notes.a t.notes.len t.notes.cap, .int .i64 t.bal] ty (0, 0) (by rw [keyC_length, keyC_length]) h
  rw [show ([Value.int .u32 t.exp, .slice t.ins.a t.ins.len t.ins.cap, .slice t.outs.a t.outs.len t.outs.cap] : List Value).length = 3 from rfl] at this
  rw [this, e { t with anchor := k }]
  simp [hlt]
theorem heap_setCell_ne' {w : World} {k g i : Nat} (h : g ≠ k) (u : Value) : (w.setCell ⟨k, i, none⟩ u).heap[g]? = w.heap[g]? := Below.heap_setCell _ _ _ _ h
theorem heap_setCells_ne {w : World} {b c : Nat} (h : c ≠ b) (o : Nat) (cs : List Value) : (w.setCells b o cs).heap[c]? = w.heap[c]? := by
  induction cs generalizing o w with
  | nil => rfl
  | cons v l ih => rw [World.setCells, ih]; exact Below.heap_setCell _ _ _ _ h

/-- The value t has the content d, whose lists are the call's own, from block B on. -/
structure TxO (B : Nat) (w : World) (t : TxV) (d : TxD) : Prop where
  ins : Own pointC 33 59 w B (.slice t.ins.a t.ins.len t.ins.cap) d.ins
  outs : Own outC 33 101 w B (.slice t.outs.a t.outs.len t.outs.cap) d.outs
  nulls : Own keyC 32 38 w B (.slice t.nulls.a t.nulls.len t.nulls.cap) d.nulls
  notes : Own keyC 32 38 w B (.slice t.notes.a t.notes.len t.notes.cap) d.notes
  idx : ∀ p : PointV, p ∈ d.ins → 0 ≤ p.idx ∧ p.idx ≤ 4294967295
  val : ∀ p : OutV, p ∈ d.outs → -9223372036854775808 ≤ p.value ∧ p.value ≤ 9223372036854775807
  exp : t.exp = d.exp ∧ 0 ≤ d.exp ∧ d.exp ≤ 4294967295
  anchor : t.anchor = d.anchor
  bal : t.bal = d.bal ∧ -9223372036854775808 ≤ d.bal ∧ d.bal ≤ 9223372036854775807
theorem TxO.below {B : Nat} {w w' : World} {t : TxV} {d : TxD} (h : TxO B w t d) (hb : Below w.heap.size w w') : TxO B w' t d := ⟨h.ins.below hb, h.outs.below hb, h.nulls.below hb, h.notes.below hb, h.idx, h.val, h.exp, h.anchor, h.bal⟩
theorem TxO.congr {B : Nat} {w w' : World} {t : TxV} {d : TxD} (h : TxO B w t d) (hb : ∀ g, B ≤ g → g < w.heap.size → w'.heap[g]? = w.heap[g]?) : TxO B w' t d := ⟨h.ins.congr hb, h.outs.congr hb, h.nulls.congr hb, h.notes.congr hb, h.idx, h.val, h.exp, h.anchor, h.bal⟩
theorem TxO.txl {B : Nat} {w : World} {t : TxV} {d : TxD} (h : TxO B w t d) : TxL w t d := ⟨h.ins.sl'.2, h.outs.sl'.2, h.nulls.sl'.2, h.notes.sl'.2, h.idx, h.val, h.exp, h.anchor, h.bal⟩
theorem TxO.mono {B B' : Nat} {w : World} {t : TxV} {d : TxD} (h : TxO B w t d) (hb : B' ≤ B) : TxO B' w t d := ⟨h.ins.mono hb, h.outs.mono hb, h.nulls.mono hb, h.notes.mono hb, h.idx, h.val, h.exp, h.anchor, h.bal⟩
theorem TxO.zero (B : Nat) (w : World) : TxO B w zeroTx zeroD := ⟨Own.nil _ _ _ _ _, Own.nil _ _ _ _ _, Own.nil _ _ _ _ _, Own.nil _ _ _ _ _, (fun p h => nomatch h), (fun p h => nomatch h), ⟨rfl, by decide, by decide⟩, rfl, ⟨rfl, by decide, by decide⟩⟩

/-- What Read holds on its way: the world, what it has read, and what is left. -/
structure RI (W : World) (s0 : List UInt8) (k : TxD → List UInt8 → Got TxD) (t : TxV) (d : TxD) (s : List UInt8) (w : World) : Prop where
  j : RJ W.heap.size t [] 0 w
  rd : RD (W.heap.size + 1 + 1 + 1) w s
  pb : PB (W.heap.size + 1 + 1 + 1 + 1) (W.heap.size + 1 + 1 + 1) w
  below : Below W.heap.size W w
  ins : Own pointC 33 59 w (W.heap.size + 5) (.slice t.ins.a t.ins.len t.ins.cap) d.ins
  outs : Own outC 33 101 w (W.heap.size + 5) (.slice t.outs.a t.outs.len t.outs.cap) d.outs
  nulls : Own keyC 32 38 w (W.heap.size + 5) (.slice t.nulls.a t.nulls.len t.nulls.cap) d.nulls
  notes : Own keyC 32 38 w (W.heap.size + 5) (.slice t.notes.a t.notes.len t.notes.cap) d.notes
  idx : ∀ p : PointV, p ∈ d.ins → 0 ≤ p.idx ∧ p.idx ≤ 4294967295
  val : ∀ p : OutV, p ∈ d.outs → -9223372036854775808 ≤ p.value ∧ p.value ≤ 9223372036854775807
  exp : t.exp = d.exp ∧ 0 ≤ d.exp ∧ d.exp ≤ 4294967295
  anchor : t.anchor = d.anchor
  bal : t.bal = d.bal ∧ -9223372036854775808 ≤ d.bal ∧ d.bal ≤ 9223372036854775807
  eq : txR s0 = k d s
  len : s.length ≤ 1000000
section
variable {W : World} {s0 : List UInt8} {k : TxD → List UInt8 → Got TxD} {t : TxV} {d : TxD} {s : List UInt8} {w w' : World}
/-- The cells that the walk looks at. -/
theorem RI.cells (h : RI W s0 k t d s w) : w.cell? ⟨W.heap.size + 1 + 1 + 1 + 1, 0, none⟩ = some (.pointer (some ⟨W.heap.size + 1 + 1 + 1, 0, none⟩)) ∧ W.heap.size + 1 + 1 + 1 + 1 < w.heap.size ∧ W.heap.size < w.heap.size :=
  ⟨h.pb.cell.1, h.pb.cell.2, by have := h.pb.cell.2; omega⟩
theorem RI.own {α : Type} {f : α → List Value} {n : Nat} {e : TypeId} {v : Value} {l : List α} (ho : Oth (W.heap.size + 1 + 1 + 1) w w') (h : Own f n e w (W.heap.size + 5) v l) : Own f n e w' (W.heap.size + 5) v l := h.oth ho (by omega)
/-- A call of the reader's. -/
theorem RI.next (h : RI W s0 k t d s w) (ho : Oth (W.heap.size + 1 + 1 + 1) w w') {r : List UInt8} (hr : RD (W.heap.size + 1 + 1 + 1) w' r) (k' : TxD → List UInt8 → Got TxD) (he : txR s0 = k' d r) (hl : r.length ≤ s.length) : RI W s0 k' t d r w' :=
  ⟨h.j.oth ho, hr, h.pb.oth ho, h.below.trans (ho.below h.below.size (by omega)), RI.own ho h.ins, RI.own ho h.outs, RI.own ho h.nulls, RI.own ho h.notes, h.idx, h.val, h.exp, h.anchor, h.bal, he, by have := h.len; omega⟩
theorem RI.own1 {α : Type} {f : α → List Value} {n : Nat} {e : TypeId} {v : Value} {l : List α} (i : Nat) (x : Value) (h : Own f n e w (W.heap.size + 5) v l) : Own f n e (w.setCell ⟨W.heap.size, i, none⟩ x) (W.heap.size + 5) v l :=
  h.congr fun g hg hl => Below.heap_setCell _ _ _ _ (by show g ≠ W.heap.size; omega)
/-- A cell of the transaction stored: what stays. -/
theorem RI.put (h : RI W s0 k t d s w) (i : Nat) (x : Value) (t' : TxV) (ht : (txC t).set i x = txC t') :
    RJ W.heap.size t' [] 0 (w.setCell ⟨W.heap.size, i, none⟩ x) ∧ RD (W.heap.size + 1 + 1 + 1) (w.setCell ⟨W.heap.size, i, none⟩ x) s ∧ PB (W.heap.size + 1 + 1 + 1 + 1) (W.heap.size + 1 + 1 + 1) (w.setCell ⟨W.heap.size, i, none⟩ x) ∧ Below W.heap.size W (w.setCell ⟨W.heap.size, i, none⟩ x) := by
  refine ⟨⟨?_, ?_, ?_⟩, ⟨?_⟩, ⟨?_, h.pb.2⟩, Below.setCell h.below (Nat.le_refl _) _⟩
  · rw [heap_setCell_txC h.j.tx, ht]
  · rw [heap_setCell_ne' (by omega)]; exact h.j.rest
  · rw [heap_setCell_ne' (by omega)]; exact h.j.er
  · rw [heap_setCell_ne' (by omega)]; exact h.rd.heap
  · rw [heap_setCell_ne' (by omega)]; exact h.pb.1
theorem RI.put_exp (h : RI W s0 k t d s w) (n : Nat) (hn : n < 4294967296) (k' : TxD → List UInt8 → Got TxD) (he : txR s0 = k' { d with exp := n } s) : RI W s0 k' { t with exp := n } { d with exp := n } s (w.setCell ⟨W.heap.size, 0, none⟩ (.int .u32 n)) := by
  obtain ⟨h1, h2, h3, h4⟩ := h.put 0 (.int .u32 n) { t with exp := n } (txC_set0 _ _)
  exact ⟨h1, h2, h3, h4, RI.own1 _ _ h.ins, RI.own1 _ _ h.outs, RI.own1 _ _ h.nulls, RI.own1 _ _ h.notes, h.idx, h.val, ⟨rfl, Int.natCast_nonneg _, by show (n : Int) ≤ _; omega⟩, h.anchor, h.bal, he, h.len⟩
theorem RI.put_bal (h : RI W s0 k t d s w) (n : Nat) (k' : TxD → List UInt8 → Got TxD) (he : txR s0 = k' { d with bal := i64N n } s) : RI W s0 k' { t with bal := i64N n } { d with bal := i64N n } s (w.setCell ⟨W.heap.size, 37, none⟩ (.int .i64 (i64N n))) := by
  obtain ⟨h1, h2, h3, h4⟩ := h.put 37 (.int .i64 (i64N n)) { t with bal := i64N n } (txC_set37 _ _)
  exact ⟨h1, h2, h3, h4, RI.own1 _ _ h.ins, RI.own1 _ _ h.outs, RI.own1 _ _ h.nulls, RI.own1 _ _ h.notes, h.idx, h.val, h.exp, h.anchor, ⟨rfl, i64N_range n⟩, he, h.len⟩
theorem RI.put_ins (h : RI W s0 k t d s w) {a : Option Addr} {n c : Nat} {l : List PointV} (ho : Own pointC 33 59 w (W.heap.size + 5) (.slice a n c) l) (hl : ∀ p ∈ l, 0 ≤ p.idx ∧ p.idx ≤ 4294967295) (k' : TxD → List UInt8 → Got TxD) (he : txR s0 = k' { d with ins := l } s) :
    RI W s0 k' { t with ins := ⟨a, n, c⟩ } { d with ins := l } s (w.setCell ⟨W.heap.size, 1, none⟩ (.slice a n c)) := by
  obtain ⟨h1, h2, h3, h4⟩ := h.put 1 (.slice a n c) { t with ins := ⟨a, n, c⟩ } (txC_set1 _ _ _ _)
  exact ⟨h1, h2, h3, h4, RI.own1 _ _ ho, RI.own1 _ _ h.outs, RI.own1 _ _ h.nulls, RI.own1 _ _ h.notes, hl, h.val, h.exp, h.anchor, h.bal, he, h.len⟩
theorem RI.put_outs (h : RI W s0 k t d s w) {a : Option Addr} {n c : Nat} {l : List OutV} (ho : Own outC 33 101 w (W.heap.size + 5) (.slice a n c) l) (hl : ∀ p ∈ l, -9223372036854775808 ≤ p.value ∧ p.value ≤ 9223372036854775807) (k' : TxD → List UInt8 → Got TxD) (he : txR s0 = k' { d with outs := l } s) :
    RI W s0 k' { t with outs := ⟨a, n, c⟩ } { d with outs := l } s (w.setCell ⟨W.heap.size, 2, none⟩ (.slice a n c)) := by
  obtain ⟨h1, h2, h3, h4⟩ := h.put 2 (.slice a n c) { t with outs := ⟨a, n, c⟩ } (txC_set2 _ _ _ _)
  exact ⟨h1, h2, h3, h4, RI.own1 _ _ h.ins, RI.own1 _ _ ho, RI.own1 _ _ h.nulls, RI.own1 _ _ h.notes, h.idx, hl, h.exp, h.anchor, h.bal, he, h.len⟩
theorem RI.put_nulls (h : RI W s0 k t d s w) {a : Option Addr} {n c : Nat} {l : List Key} (ho : Own keyC 32 38 w (W.heap.size + 5) (.slice a n c) l) (k' : TxD → List UInt8 → Got TxD) (he : txR s0 = k' { d with nulls := l } s) :
    RI W s0 k' { t with nulls := ⟨a, n, c⟩ } { d with nulls := l } s (w.setCell ⟨W.heap.size, 35, none⟩ (.slice a n c)) := by
  obtain ⟨h1, h2, h3, h4⟩ := h.put 35 (.slice a n c) { t with nulls := ⟨a, n, c⟩ } (txC_set35 _ _ _ _)
  exact ⟨h1, h2, h3, h4, RI.own1 _ _ h.ins, RI.own1 _ _ h.outs, RI.own1 _ _ ho, RI.own1 _ _ h.notes, h.idx, h.val, h.exp, h.anchor, h.bal, he, h.len⟩
theorem RI.put_notes (h : RI W s0 k t d s w) {a : Option Addr} {n c : Nat} {l : List Key} (ho : Own keyC 32 38 w (W.heap.size + 5) (.slice a n c) l) (k' : TxD → List UInt8 → Got TxD) (he : txR s0 = k' { d with notes := l } s) :
    RI W s0 k' { t with notes := ⟨a, n, c⟩ } { d with notes := l } s (w.setCell ⟨W.heap.size, 36, none⟩ (.slice a n c)) := by
  obtain ⟨h1, h2, h3, h4⟩ := h.put 36 (.slice a n c) { t with notes := ⟨a, n, c⟩ } (txC_set36 _ _ _ _)
  exact ⟨h1, h2, h3, h4, RI.own1 _ _ h.ins, RI.own1 _ _ h.outs, RI.own1 _ _ h.nulls, RI.own1 _ _ ho, h.idx, h.val, h.exp, h.anchor, h.bal, he, h.len⟩
theorem RI.ownA {α : Type} {f : α → List Value} {n : Nat} {e : TypeId} {v : Value} {l : List α} (o : Nat) (cs : List Value) (h : Own f n e w (W.heap.size + 5) v l) : Own f n e (w.setCells W.heap.size o cs) (W.heap.size + 5) v l :=
  h.congr fun g hg hl => heap_setCells_ne (by omega) _ _
theorem RI.put_anchor (h : RI W s0 k t d s w) (x : Key) (k' : TxD → List UInt8 → Got TxD) (he : txR s0 = k' { d with anchor := x } s) :
    RI W s0 k' { t with anchor := x } { d with anchor := x } s (w.setCells W.heap.size 3 (keyC x)) := by
  refine ⟨⟨heap_setCells_anchor h.j.tx x, ?_, ?_⟩, ⟨?_⟩, ⟨?_, h.pb.2⟩, below_setCells (Nat.le_refl _) _ _ _ _ h.below, RI.ownA _ _ h.ins, RI.ownA _ _ h.outs, RI.ownA _ _ h.nulls, RI.ownA _ _ h.notes, h.idx, h.val, h.exp, rfl, h.bal, he, h.len⟩
  · rw [heap_setCells_ne (by omega)]; exact h.j.rest
  · rw [heap_setCells_ne (by omega)]; exact h.j.er
  · rw [heap_setCells_ne (by omega)]; exact h.rd.heap
  · rw [heap_setCells_ne (by omega)]; exact h.pb.1
theorem RI.re (h : RI W s0 k t d s w) (k' : TxD → List UInt8 → Got TxD) (he : txR s0 = k' d s) : RI W s0 k' t d s w := { h with eq := he }
end
/-- What Read comes to. -/
def ReadTo (W : World) : Got TxD → Ending → World → Prop
  | .ok (d, r), e, w' => ∃ t, e = .returned (valR t r 0) ∧ TxO W.heap.size w' t d ∧ Below W.heap.size W w'
  | .error x, e, w' => e = .returned (valR zeroTx [] x) ∧ Below W.heap.size W w'

attribute [local irreducible] Int.lt Int.le
attribute [local go_sem ↓] load_key store_key alloc_key build0_key eq_key load_point store_point alloc_point load_out store_out alloc_out load_tx store_tx alloc_tx build0_tx
attribute [local go_sem] rowOf_drew rowOf_alloc_old rowOf_alloc_new canPut_drew canPut_alloc_old canPut_alloc_new setCells_alloc_new

theorem read_dies {W : World} {s : List UInt8} {t : TxV} {x y : Int} {r : List UInt8} {tmps : Array Value} {w w' : World} (hx : txR s = .error x)
    (h2 : tmps.getD 2 undef = .pointer (some ⟨W.heap.size, 0, none⟩)) (h3 : tmps.getD 3 undef = .pointer (some ⟨W.heap.size + 1, 0, none⟩)) (h4 : tmps.getD 4 undef = .pointer (some ⟨W.heap.size + 1 + 1, 0, none⟩))
    (hj : RJ W.heap.size t r y w) (hb : Below W.heap.size W w) (ho : Oth (W.heap.size + 1 + 1 + 1) w w') :
    Leaves Try.prog Try.f60 tmps (ReadTo W (txR s)) [{ target := .fn (.func 92) #[.pointer (some ⟨W.heap.size, 0, none⟩), .pointer (some ⟨W.heap.size + 1, 0, none⟩), .pointer (some ⟨W.heap.size + 1 + 1, 0, none⟩)], args := #[] }] (.panicking (dead x)) w' := by
  refine leaves_cons (f := 92) (args := #[.pointer (some ⟨W.heap.size, 0, none⟩), .pointer (some ⟨W.heap.size + 1, 0, none⟩), .pointer (some ⟨W.heap.size + 1 + 1, 0, none⟩)]) (by simp) (by simp [go_sem]) ?_
  refine (read_catch (hj.oth ho) []).mono ?_
  rintro e u' w'' ⟨rfl, rfl, hf, hfb⟩
  show ∃ v, (results Try.f60 tmps).run Try.prog w'' = .ok v w'' ∧ ReadTo W (txR s) (.returned v) w''
  refine ⟨_, read_results h2 h3 h4 hf, ?_⟩
  rw [hx]
  exact ⟨rfl, (hb.trans (ho.below hb.size (by omega))).trans hfb⟩

theorem read_dies_at {W : World} {s0 : List UInt8} {x : Int} (hx : txR s0 = .error x) {k : TxD → List UInt8 → Got TxD} {t : TxV} {d : TxD} {s : List UInt8} {w : World} (R : RI W s0 k t d s w) :
    ∀ c (a : Act) w', a.defers = [{ target := .fn (.func 92) #[.pointer (some ⟨W.heap.size, 0, none⟩), .pointer (some ⟨W.heap.size + 1, 0, none⟩), .pointer (some ⟨W.heap.size + 1 + 1, 0, none⟩)], args := #[] }] →
      a.tmps.getD 2 undef = .pointer (some ⟨W.heap.size, 0, none⟩) → a.tmps.getD 3 undef = .pointer (some ⟨W.heap.size + 1, 0, none⟩) → a.tmps.getD 4 undef = .pointer (some ⟨W.heap.size + 1 + 1, 0, none⟩) → (c = dead x ∧ Oth (W.heap.size + 1 + 1 + 1) w w') →
      Leaves Try.prog Try.f60 a.tmps (ReadTo W (txR s0)) a.defers (.panicking c) w' := by
  rintro c a w' hd h2 h3 h4 ⟨rfl, o⟩
  rw [hd]
  exact read_dies hx h2 h3 h4 R.j R.below o

/-- What the last region holds: the transaction stays; what is handed back may turn. -/
structure FR (B : Nat) (t : TxV) (w8 w : World) : Prop where
  tx : w.heap[B]? = some (.cells (txC t).toArray 41 (0, 0))
  rest : ∃ r, w.heap[B + 1]? = some (.cells #[.string r] 9 (0, 0))
  er : ∃ x : Int, w.heap[B + 1 + 1]? = some (.cells #[.int .i64 x] 52 (0, 0))
  other : ∀ b, b ≠ B → b ≠ B + 1 → b ≠ B + 1 + 1 → w.heap[b]? = w8.heap[b]?
  below : Below B w8 w
section
variable {B : Nat} {t : TxV} {w8 w : World}
theorem FR.start (h : RJ B t [] 0 w8) : FR B t w8 w8.drew := ⟨h.tx, ⟨_, h.rest⟩, ⟨_, h.er⟩, fun _ _ _ _ => rfl, (Below.refl _ _).drew⟩
theorem FR.putTx (h : FR B t w8 w) : FR B t w8 (w.setCells B 0 (txC t)) := by
  refine ⟨heap_setCells_all h.tx rfl, ?_, ?_, fun b h1 h2 h3 => (heap_setCells_ne h1 _ _).trans (h.other b h1 h2 h3), below_setCells (Nat.le_refl _) _ _ _ _ h.below⟩
  · obtain ⟨r, hr⟩ := h.rest; exact ⟨r, by rw [heap_setCells_ne (by omega)]; exact hr⟩
  · obtain ⟨r, hr⟩ := h.er; exact ⟨r, by rw [heap_setCells_ne (by omega)]; exact hr⟩
theorem FR.putRest (h : FR B t w8 w) (s : ByteArray) : FR B t w8 (w.setCell ⟨B + 1, 0, none⟩ (.string s)) := by
  refine ⟨by rw [heap_setCell_ne (by omega)]; exact h.tx, ?_, ?_, fun b h1 h2 h3 => (heap_setCell_ne h2 _).trans (h.other b h1 h2 h3), Below.setCell h.below (Nat.le_succ _) _⟩
  · obtain ⟨r, hr⟩ := h.rest; exact ⟨s, heap_setCell_one hr _⟩
  · obtain ⟨r, hr⟩ := h.er; exact ⟨r, by rw [heap_setCell_ne (by omega)]; exact hr⟩
theorem FR.putEr (h : FR B t w8 w) (x : Int) : FR B t w8 (w.setCell ⟨B + 1 + 1, 0, none⟩ (.int .i64 x)) := by
  refine ⟨by rw [heap_setCell_ne (by omega)]; exact h.tx, ?_, ?_, fun b h1 h2 h3 => (heap_setCell_ne h3 _).trans (h.other b h1 h2 h3), Below.setCell h.below (by show B ≤ B + 1 + 1; omega) _⟩
  · obtain ⟨r, hr⟩ := h.rest; exact ⟨r, by rw [heap_setCell_ne (by omega)]; exact hr⟩
  · obtain ⟨r, hr⟩ := h.er; exact ⟨x, heap_setCell_one hr _⟩
theorem FR.canTx (h : FR B t w8 w) : canPut w B 0 38 = true := canPut_block h.tx 0 38 (by simp [txC_length])
theorem FR.canRest (h : FR B t w8 w) : ∃ r, w.cell? ⟨B + 1, 0, none⟩ = some (.string r) ∧ w.frozen? ⟨B + 1, 0, none⟩ = false ∧ B + 1 < w.heap.size := by
  obtain ⟨r, hr⟩ := h.rest
  exact ⟨r, by rw [cell_of_row _ _ 0 _ _ _ hr]; rfl, frozen_of_row _ _ 0 _ _ hr, (Array.getElem?_eq_some_iff.1 hr).1⟩
theorem FR.canEr (h : FR B t w8 w) : ∃ r : Int, w.cell? ⟨B + 1 + 1, 0, none⟩ = some (.int .i64 r) ∧ w.frozen? ⟨B + 1 + 1, 0, none⟩ = false ∧ B + 1 + 1 < w.heap.size := by
  obtain ⟨r, hr⟩ := h.er
  exact ⟨r, by rw [cell_of_row _ _ 0 _ _ _ hr]; rfl, frozen_of_row _ _ 0 _ _ hr, (Array.getElem?_eq_some_iff.1 hr).1⟩
/-- What is handed back. -/
theorem FR.last (h : FR B t w8 w) (q : List UInt8) (x : Int) : RJ B t q x (((w.setCells B 0 (txC t)).setCell ⟨B + 1, 0, none⟩ (.string (sB q))).setCell ⟨B + 1 + 1, 0, none⟩ (.int .i64 x)) := by
  refine ⟨(((h.putTx).putRest (sB q)).putEr x).tx, ?_, ?_⟩
  · obtain ⟨r, hr⟩ := h.putTx.rest
    rw [heap_setCell_ne (by omega)]; exact heap_setCell_one hr _
  · obtain ⟨r, hr⟩ := (h.putTx.putRest (sB q)).er
    exact heap_setCell_one hr _
end
theorem FR.own {B base : Nat} {t : TxV} {w8 w : World} {α : Type} {f : α → List Value} {n : Nat} {e : TypeId} {v : Value} {l : List α} (h : FR B t w8 w) (hb : B + 3 ≤ base) (ho : Own f n e w8 base v l) : Own f n e w base v l :=
  ho.congr fun g hg hl => h.other g (by omega) (by omega) (by omega)
theorem RI.txlF {W : World} {s0 : List UInt8} {k : TxD → List UInt8 → Got TxD} {t : TxV} {d : TxD} {s : List UInt8} {w8 w : World} (h : RI W s0 k t d s w8) (hf : FR W.heap.size t w8 w) : TxO W.heap.size w t d :=
  ⟨(hf.own (by omega) h.ins).mono (by omega), (hf.own (by omega) h.outs).mono (by omega), (hf.own (by omega) h.nulls).mono (by omega), (hf.own (by omega) h.notes).mono (by omega), h.idx, h.val, h.exp, h.anchor, h.bal⟩

end Go.Proofs.Ytahkiabpjfcfdaa
