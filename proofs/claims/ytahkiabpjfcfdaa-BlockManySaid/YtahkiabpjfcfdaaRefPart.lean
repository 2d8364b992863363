/- Layer 5: the document's part, place by place. (printed by mkrefpart.py) -/
import Derived.Test.YtahkiabpjfcfdaaRefRd
namespace Go.Proofs.Ytahkiabpjfcfdaa
open Go.RowKit
set_option linter.unusedVariables false
set_option linter.unusedSimpArgs false
set_option maxRecDepth 100000

/-- What part comes to: the transaction so far and what is left, or an errno. -/
def PtTo (B : Nat) (W : World) (Q : TxV → Prop) (o : Got TxD) : Ending → World → Prop := fun e w' => match o with
  | .ok (d, r) => ∃ t', e = .returned (valR t' r 0) ∧ TxO B w' t' d ∧ Q t' ∧ Below W.heap.size W w'
  | .error x => ¬ x = 0 ∧ (∃ t' r, e = .returned (valR t' r x)) ∧ Below W.heap.size W w'
theorem PtTo.mk {B : Nat} {W w' : World} {Q : TxV → Prop} {o : Got TxD} {d : TxD} {r : List UInt8} {t' : TxV} (h : o = .ok (d, r)) (hl : TxO B w' t' d) (hq : Q t') (hb : Below W.heap.size W w') : PtTo B W Q o (.returned (valR t' r 0)) w' := by subst h; exact ⟨t', rfl, hl, hq, hb⟩
theorem PtTo.err {B : Nat} {W w' : World} {Q : TxV → Prop} {o : Got TxD} {x : Int} {r : List UInt8} {t' : TxV} (h : o = .error x) (hx : ¬ x = 0) (hb : Below W.heap.size W w') : PtTo B W Q o (.returned (valR t' r x)) w' := by subst h; exact ⟨hx, ⟨t', r, rfl⟩, hb⟩
theorem row38_put {w : World} {b : Nat} {t0 : TxV} (h : w.heap[b]? = some (.cells (txC t0).toArray 41 (0, 0))) (t' : TxV) : rowOf (w.setCells b 0 (txC t')) b 0 38 = some (txC t') :=
  rowOf_of_rangeAt (World.rangeAt_setCells_same w b 0 (txC t') (by rw [txC_length]; exact canPut_there.1 (canPut_block h 0 38 (by simp [txC_length])))) (txC_length t')
/-- What part's two blocks hold. -/
structure PB2 (B : Nat) (t : TxV) (w : World) : Prop where
  tx : w.heap[B]? = some (.cells (txC t).toArray 41 (0, 0))
  res : w.heap[B + 1]? = some (.cells (txC zeroTx).toArray 41 (0, 0))
theorem PB2.below {B : Nat} {t : TxV} {w w' : World} (h : PB2 B t w) (hb : Below w.heap.size w w') : PB2 B t w' := ⟨keepBlock hb h.tx, keepBlock hb h.res⟩
theorem PB2.base {B base : Nat} {t : TxV} {w w' : World} (h : PB2 B t w) (hb : Below base w w') (hB : B + 2 ≤ base) : PB2 B t w' := ⟨by rw [hb.block B (by omega)]; exact h.tx, by rw [hb.block (B + 1) (by omega)]; exact h.res⟩
theorem PB2.set {B : Nat} {t t' : TxV} {w : World} (h : PB2 B t w) {i : Nat} {v : Value} (ht : (txC t).set i v = txC t') : PB2 B t' (w.setCell ⟨B, i, none⟩ v) :=
  ⟨by rw [heap_setCell_txC h.tx, ht], by rw [heap_setCell_ne' (by omega)]; exact h.res⟩
theorem PB2.setA {B : Nat} {t : TxV} {w : World} (h : PB2 B t w) (k : Key) : PB2 B { t with anchor := k } (w.setCells B 3 (keyC k)) :=
  ⟨heap_setCells_anchor h.tx k, by rw [heap_setCells_ne (by omega)]; exact h.res⟩
theorem PB2.start (W : World) (t : TxV) : PB2 W.heap.size t ((W.alloc (.cells (txC t).toArray 41)).alloc (.cells (txC zeroTx).toArray 41)) :=
  ⟨by rw [Below.heap_alloc _ _ _ (by simp)]; exact heap_alloc_new W _, by have := heap_alloc_new (W.alloc (.cells (txC t).toArray 41)) (.cells (txC zeroTx).toArray 41); rw [World.size_alloc] at this; exact this⟩
/-- In the walk's own words. -/
theorem PB2.walk {B : Nat} {t : TxV} {w : World} (h : PB2 B t w) : rowOf w B 0 38 = some (txC t) ∧ canPut w (B + 1) 0 38 = true ∧ B < w.heap.size ∧ B + 1 < w.heap.size ∧ w.cell? ⟨B, 0, none⟩ = some (.int .u32 t.exp) ∧
    w.cell? ⟨B, 1, none⟩ = some (.slice t.ins.a t.ins.len t.ins.cap) ∧ w.cell? ⟨B, 2, none⟩ = some (.slice t.outs.a t.outs.len t.outs.cap) ∧ w.cell? ⟨B, 35, none⟩ = some (.slice t.nulls.a t.nulls.len t.nulls.cap) ∧ w.cell? ⟨B, 36, none⟩ = some (.slice t.notes.a t.notes.len t.notes.cap) ∧
    w.cell? ⟨B, 37, none⟩ = some (.int .i64 t.bal) ∧ (∀ o, w.frozen? ⟨B, o, none⟩ = false) ∧ canPut w B 3 32 = true := by
  obtain ⟨t0, t1, t2, t3, t4, t5, t6, t7⟩ := tx_all h.tx
  exact ⟨tx_row h.tx, canPut_block h.res 0 38 (by simp [txC_length]), t0, (Array.getElem?_eq_some_iff.1 h.res).1, t1, t2, t3, t5, t6, t7, fun o => frozen_of_row w _ o _ _ h.tx, canPut_block h.tx 3 32 (by simp [txC_length])⟩
/-- The result laid. -/
theorem PB2.fin {W w : World} {t : TxV} (h : PB2 W.heap.size t w) (hb : Below W.heap.size W w) (t' : TxV) : rowOf (w.setCells (W.heap.size + 1) 0 (txC t')) (W.heap.size + 1) 0 38 = some (txC t') ∧ Below W.heap.size W (w.setCells (W.heap.size + 1) 0 (txC t')) :=
  ⟨row38_put h.res t', below_setCells (Nat.le_succ _) _ _ _ _ hb⟩

attribute [local irreducible] Int.lt Int.le
attribute [local go_sem ↓] load_key store_key alloc_key build0_key eq_key load_point store_point alloc_point load_out store_out alloc_out load_tx store_tx alloc_tx build0_tx build_pt build_out one_key one_point one_out rappend_pt rappend_out rappend_key
attribute [local go_sem] rowOf_drew rowOf_alloc_old rowOf_alloc_new canPut_drew canPut_alloc_old canPut_alloc_new setCells_alloc_new

set_option maxHeartbeats 4000000 in
theorem part0 (t : TxV) (d : TxD) (s : List UInt8) (W : World) (B : Nat) (h : TxO B W t d) (hB : B ≤ W.heap.size) (hs : s.length ≤ 1000000) :
    Calls Try.prog 101 #[.agg (txC t).toArray, .int .i64 0, .string (sB s)] W (PtTo B W (fun t' => t'.ins = t.ins ∧ t'.outs = t.outs) (thenR (numR 4 s) fun n r => .ok ({ d with exp := (n : Int) }, r))) := by
  have P0 := PB2.start W t
  have B0 : Below W.heap.size W ((W.alloc (.cells (txC t).toArray 41)).alloc (.cells (txC zeroTx).toArray 41)) := ((Below.refl _ _).alloc (Nat.le_refl _) _).alloc (by simp) _
  have hsb := Box.mk hs
  have H := Box.mk h
  clear h hs
  skip
  go_enter Try.func101, Try.ntmps101
  go_wp2_with fail
  generalize ((W.alloc (.cells (txC t).toArray 41)).alloc (.cells (txC zeroTx).toArray 41)) = w0 at *
  refine (refGet_any s 4 w0).mono ?_
  rintro e w1 ⟨rfl, b1⟩
  have P1 := P0.below b1
  have B1 := B0.trans (b1.mono B0.size)
  replace P0 := Box.mk P0
  rcases hn : numR 4 s with x | ⟨n, r⟩
  · obtain ⟨hv, rfl⟩ := getV_err (k := 4) (by omega) (by omega) hn
    have hO : thenR (numR 4 s) (fun n r => (.ok ({ d with exp := (n : Int) }, r) : Got TxD)) = .error 30 := by rw [hn]; rfl
    rw [show getV s 4 = (0, [], 30) from hv]
    simp only [val3]
    have P2 := P1.set (txC_set0 t 0)
    obtain ⟨hrow, BF⟩ := P2.fin (Below.setCell B1 (Nat.le_refl _) _) { t with exp := 0 }
    obtain ⟨c1, c2, c3, c4, c5, c6, c7, c8, c9, c10, c11, c12⟩ := P1.walk
    obtain ⟨d1, d2, d3, d4, -⟩ := P2.walk
    replace P1 := Box.mk P1
    replace P2 := Box.mk P2
    replace hv := Box.mk hv
    replace hn := Box.mk hn
    replace hO := Box.mk hO
    go_wp2
    refine bodyPost_ret (v := valR { t with exp := 0 } [] 30) (res3 Try.results101 (res_tx (b := W.heap.size + 1) (o := 0) (by simp [go_sem]) hrow) (v2 := .string (sB [])) (v3 := .int .i64 30) (by simp [oneRes]; try rfl) (by simp [oneRes]; try rfl)) rfl ?_
    exact PtTo.err hO.out (by omega) BF
  · have hv := getV_ok (k := 4) (by omega) (by omega) hn
    have hO : thenR (numR 4 s) (fun n r => (.ok ({ d with exp := (n : Int) }, r) : Got TxD)) = .ok ({ d with exp := (n : Int) }, r) := by rw [hn]; rfl
    have hlt := (numR_le hn).2
    rw [show getV s 4 = (n, r, 0) from hv]
    simp only [val3]
    have P2 := P1.set (txC_set0 t (n : Int))
    obtain ⟨hrow, BF⟩ := P2.fin (Below.setCell B1 (Nat.le_refl _) _) { t with exp := (n : Int) }
    obtain ⟨c1, c2, c3, c4, c5, c6, c7, c8, c9, c10, c11, c12⟩ := P1.walk
    obtain ⟨d1, d2, d3, d4, -⟩ := P2.walk
    replace P1 := Box.mk P1
    replace P2 := Box.mk P2
    replace hv := Box.mk hv
    replace hn := Box.mk hn
    replace hO := Box.mk hO
    have hn4 : (n : Int) % 4294967296 = n := by omega
    replace hlt := Box.mk hlt
    go_wp2
    refine bodyPost_ret (v := valR { t with exp := (n : Int) } r 0) (res3 Try.results101 (res_tx (b := W.heap.size + 1) (o := 0) (by simp [go_sem]) hrow) (v2 := .string (sB r)) (v3 := .int .i64 0) (by simp [oneRes]; try rfl) (by simp [oneRes]; try rfl)) rfl ?_
    have L := H.out.below BF
    exact PtTo.mk hO.out ⟨L.ins, L.outs, L.nulls, L.notes, L.idx, L.val, ⟨rfl, Int.natCast_nonneg _, by have := hlt.out; show (n : Int) ≤ _; omega⟩, L.anchor, L.bal⟩ ⟨rfl, rfl⟩ BF

set_option maxHeartbeats 4000000 in
theorem part5 (t : TxV) (d : TxD) (s : List UInt8) (W : World) (B : Nat) (h : TxO B W t d) (hB : B ≤ W.heap.size) (hs : s.length ≤ 1000000) :
    Calls Try.prog 101 #[.agg (txC t).toArray, .int .i64 5, .string (sB s)] W (PtTo B W (fun _ => True) (thenR (numR 8 s) fun n r => .ok ({ d with bal := i64N n }, r))) := by
  have P0 := PB2.start W t
  have B0 : Below W.heap.size W ((W.alloc (.cells (txC t).toArray 41)).alloc (.cells (txC zeroTx).toArray 41)) := ((Below.refl _ _).alloc (Nat.le_refl _) _).alloc (by simp) _
  have hsb := Box.mk hs
  have H := Box.mk h
  clear h hs
  skip
  go_enter Try.func101, Try.ntmps101
  go_wp2_with fail
  generalize ((W.alloc (.cells (txC t).toArray 41)).alloc (.cells (txC zeroTx).toArray 41)) = w0 at *
  refine (refGet_any s 8 w0).mono ?_
  rintro e w1 ⟨rfl, b1⟩
  have P1 := P0.below b1
  have B1 := B0.trans (b1.mono B0.size)
  replace P0 := Box.mk P0
  rcases hn : numR 8 s with x | ⟨n, r⟩
  · obtain ⟨hv, rfl⟩ := getV_err (k := 8) (by omega) (by omega) hn
    have hO : thenR (numR 8 s) (fun n r => (.ok ({ d with bal := i64N n }, r) : Got TxD)) = .error 30 := by rw [hn]; rfl
    rw [show getV s 8 = (0, [], 30) from hv]
    simp only [val3]
    have P2 := P1.set (txC_set37 t 0)
    obtain ⟨hrow, BF⟩ := P2.fin (Below.setCell B1 (Nat.le_refl _) _) { t with bal := 0 }
    obtain ⟨c1, c2, c3, c4, c5, c6, c7, c8, c9, c10, c11, c12⟩ := P1.walk
    obtain ⟨d1, d2, d3, d4, -⟩ := P2.walk
    replace P1 := Box.mk P1
    replace P2 := Box.mk P2
    replace hv := Box.mk hv
    replace hn := Box.mk hn
    replace hO := Box.mk hO
    go_wp2
    refine bodyPost_ret (v := valR { t with bal := 0 } [] 30) (res3 Try.results101 (res_tx (b := W.heap.size + 1) (o := 0) (by simp [go_sem]) hrow) (v2 := .string (sB [])) (v3 := .int .i64 30) (by simp [oneRes]; try rfl) (by simp [oneRes]; try rfl)) rfl ?_
    exact PtTo.err hO.out (by omega) BF
  · have hv := getV_ok (k := 8) (by omega) (by omega) hn
    have hO : thenR (numR 8 s) (fun n r => (.ok ({ d with bal := i64N n }, r) : Got TxD)) = .ok ({ d with bal := i64N n }, r) := by rw [hn]; rfl
    have hlt := (numR_le hn).2
    rw [show getV s 8 = (n, r, 0) from hv]
    simp only [val3]
    have P2 := P1.set (txC_set37 t (i64N n))
    obtain ⟨hrow, BF⟩ := P2.fin (Below.setCell B1 (Nat.le_refl _) _) { t with bal := i64N n }
    obtain ⟨c1, c2, c3, c4, c5, c6, c7, c8, c9, c10, c11, c12⟩ := P1.walk
    obtain ⟨d1, d2, d3, d4, -⟩ := P2.walk
    replace P1 := Box.mk P1
    replace P2 := Box.mk P2
    replace hv := Box.mk hv
    replace hn := Box.mk hn
    replace hO := Box.mk hO
    have hw64 : wrap64 (n : Int) = i64N n := rfl
    replace hlt := Box.mk hlt
    go_wp2
    refine bodyPost_ret (v := valR { t with bal := i64N n } r 0) (res3 Try.results101 (res_tx (b := W.heap.size + 1) (o := 0) (by simp [go_sem]) hrow) (v2 := .string (sB r)) (v3 := .int .i64 0) (by simp [oneRes]; try rfl) (by simp [oneRes]; try rfl)) rfl ?_
    have L := H.out.below BF
    exact PtTo.mk hO.out ⟨L.ins, L.outs, L.nulls, L.notes, L.idx, L.val, L.exp, L.anchor, ⟨rfl, i64N_range n⟩⟩ trivial BF

set_option maxHeartbeats 4000000 in
theorem part1 (t : TxV) (d : TxD) (s : List UInt8) (W : World) (B : Nat) (h : TxO B W t d) (hB : B ≤ W.heap.size) (hs : s.length ≤ 1000000) (hi : t.ins = Sl.nil) :
    Calls Try.prog 101 #[.agg (txC t).toArray, .int .i64 1, .string (sB s)] W (PtTo B W (fun t' => t'.outs = t.outs) (thenR (manyR s) fun n r => thenR (listR ptR n r) fun l q => .ok ({ d with ins := l }, q))) := by
  have P0 := PB2.start W t
  have B0 : Below W.heap.size W ((W.alloc (.cells (txC t).toArray 41)).alloc (.cells (txC zeroTx).toArray 41)) := ((Below.refl _ _).alloc (Nat.le_refl _) _).alloc (by simp) _
  have hsb := Box.mk hs
  have H := Box.mk h
  clear h hs
  obtain ⟨o, ho⟩ : ∃ o : Got TxD, (thenR (manyR s) fun n r => thenR (listR ptR n r) fun l q => .ok ({ d with ins := l }, q)) = o := ⟨_, rfl⟩
  rw [ho]
  go_enter Try.func101, Try.ntmps101
  go_wp2_with fail
  generalize ((W.alloc (.cells (txC t).toArray 41)).alloc (.cells (txC zeroTx).toArray 41)) = w0 at *
  refine (refMany_any s w0 hsb.out).mono ?_
  rintro e w1 ⟨rfl, b1⟩
  have P1 := P0.below b1
  have B1 := B0.trans (b1.mono B0.size)
  replace P0 := Box.mk P0
  rcases hn : manyR s with x | ⟨n, r⟩
  · rw [manyV_err hn]
    have hO : o = .error x := by rw [← ho, hn]; rfl
    have hx := manyR_errne hn
    obtain ⟨hrow, BF⟩ := P1.fin B1 t
    obtain ⟨c1, c2, c3, c4, c5, c6, c7, c8, c9, c10, c11, c12⟩ := P1.walk
    replace P1 := Box.mk P1
    replace hn := Box.mk hn
    replace hO := Box.mk hO
    replace ho := Box.mk ho
    simp only [valMn]
    go_wp2
    refine bodyPost_ret (v := valR t [] x) (res3 Try.results101 (res_tx (b := W.heap.size + 1) (o := 0) (by simp [go_sem]) hrow) (v2 := .string (sB [])) (v3 := .int .i64 x) (by simp [oneRes]; try rfl) (by simp [oneRes]; try rfl)) rfl ?_
    exact PtTo.err hO.out hx BF
  · rw [manyV_ok hn]
    have hO : o = thenR (listR ptR n r) fun l q => .ok ({ d with ins := l }, q) := by rw [← ho, hn]; rfl
    have hn40 := (manyR_le hn).2
    have hrl := (manyR_le hn).1
    replace hn := Box.mk hn
    replace hO := Box.mk hO
    replace ho := Box.mk ho
    simp only [valMn]
    have hst : t = { t with ins := ⟨none, 0, 0⟩ } := by cases t; simp only at hi; subst hi; rfl
    rw [hst] at P1
    replace hst := Box.mk hst
    replace hi := Box.mk hi
    go_wp2_with fail
    go_loopw [13, 15] (fun sv i wr => Below W.heap.size W wr ∧ W.heap.size + 2 ≤ wr.heap.size ∧ ∃ j : Nat, ∃ s' : List UInt8, ∃ l' : List PointV, j ≤ n ∧ i = .int .i64 j ∧ sv = .string (sB s') ∧ s'.length ≤ 1000000 ∧ l'.length = j ∧ behind l' (listR ptR (n - j) s') = listR ptR n r ∧ ∃ u c, PB2 W.heap.size { t with ins := ⟨u, j, c⟩ } wr ∧ Own pointC 33 59 wr (W.heap.size + 2) (.slice u j c) l') (fun _ i _ => n - (intOf i).toNat)
    case atStart => exact ⟨B1, by have := P1.walk.2.2.2.1; omega, 0, r, [], Nat.zero_le _, rfl, rfl, by have := hsb.out; omega, rfl, behind_nil _, none, 0, P1, Own.nil _ _ _ _ _⟩
    case round =>
      clear B1 b1
      replace P1 := Box.mk P1
      obtain ⟨hbr, hsz2, j, s', l', hj, rfl, rfl, hsl, hll, heq, u, c, P, hown⟩ := hrel
      have hsz := hbr.size
      by_cases hlt : j < n
      · have hlt' : (j : Int) < (n : Int) := by omega
        have hj1 : n - j = (n - (j + 1)) + 1 := by omega
        rw [hj1] at heq
        replace hj1 := Box.mk hj1
        replace hll := Box.mk hll
        replace hsl := Box.mk hsl
        have hownb := Box.mk hown
        clear hown
        obtain ⟨c1, c2, c3, c4, c5, c6, c7, c8, c9, c10, c11, c12⟩ := P.walk
        go_wp2_with fail
        refine (refKey_any s' wr (by have := hsl.out; omega)).mono ?_
        rintro e w2 ⟨rfl, b2⟩
        clear c1 c2 c3 c4 c5 c6 c7 c8 c9 c10 c11 c12
        have P2 := P.below b2
        have B2 := since_next hbr b2
        have own2 := hownb.out.below b2
        have z2 := b2.size
        replace P := Box.mk P
        replace own2 := Box.mk own2
        rcases hx : keyR s' with x | ⟨x1, q1⟩
        · obtain ⟨hv, rfl⟩ := keyV_err hx
          rw [show keyV s' = (zeroKey, [], 30) from hv]
          simp only [valK]
          have b3 : Below w2.heap.size w2 (w2.alloc (.cells (keyC zeroKey).toArray 38)) := (Below.refl _ _).alloc (Nat.le_refl _) _
          have P3 := P2.below b3
          have B3 := since_next B2 b3
          have hR : listR ptR n r = .error 30 := by rw [← heq]; exact behind_error l' (by unfold ptR; rw [hx]; rfl)
          have hO2 : o = .error 30 := by rw [hO.out, hR]; rfl
          obtain ⟨hrow, BF⟩ := P3.fin B3 { t with ins := ⟨u, j, c⟩ }
          obtain ⟨c1, c2, c3, c4, c5, c6, c7, c8, c9, c10, c11, c12⟩ := P3.walk
          replace P2 := Box.mk P2
          replace P3 := Box.mk P3
          replace b3 := Box.mk b3
          replace hR := Box.mk hR
          replace hO2 := Box.mk hO2
          replace heq := Box.mk heq
          replace hx := Box.mk hx
          replace hv := Box.mk hv
          go_wp2
          refine bodyPost_ret (v := valR { t with ins := ⟨u, j, c⟩ } [] 30) (res3 Try.results101 (res_tx (b := W.heap.size + 1) (o := 0) (by simp [go_sem]) hrow) (v2 := .string (sB [])) (v3 := .int .i64 30) (by simp [oneRes]; try rfl) (by simp [oneRes]; try rfl)) rfl ?_
          exact PtTo.err hO2.out (by omega) BF
        · have hv := keyV_ok hx
          rw [show keyV s' = (x1, q1, 0) from hv]
          simp only [valK]
          have hq1 : q1.length ≤ 1000000 := by have := hsl.out; have := keyR_le hx; omega
          replace hv := Box.mk hv
          have b3 : Below w2.heap.size w2 (w2.alloc (.cells (keyC x1).toArray 38)) := (Below.refl _ _).alloc (Nat.le_refl _) _
          have hk3 := heap_alloc_new w2 (.cells (keyC x1).toArray 38)
          have z3 : (w2.alloc (.cells (keyC x1).toArray 38)).heap.size = w2.heap.size + 1 := by simp
          go_wp2_with fail
          generalize w2.alloc (.cells (keyC x1).toArray 38) = w3 at *
          have P3 := P2.below b3
          have B3 := since_next B2 b3
          have own3 := own2.out.below b3
          replace P2 := Box.mk P2
          replace own3 := Box.mk own3
          replace b3 := Box.mk b3
          refine (refGet_any q1 4 w3).mono ?_
          rintro e w4 ⟨rfl, b4⟩
          have P4 := P3.below b4
          have B4 := since_next B3 b4
          have own4 := own3.out.below b4
          have z4 := b4.size
          replace own4 := Box.mk own4
          have hk4 := keepBlock b4 hk3
          replace P3 := Box.mk P3
          rcases hy : numR 4 q1 with x | ⟨x2, q2⟩
          · obtain ⟨hv2, rfl⟩ := getV_err (k := 4) (by omega) (by omega) hy
            rw [show getV q1 4 = (0, [], 30) from hv2]
            simp only [val3]
            have hR : listR ptR n r = .error 30 := by rw [← heq]; exact behind_error l' (by unfold ptR; rw [hx, thenR_ok, hy]; rfl)
            have hO2 : o = .error 30 := by rw [hO.out, hR]; rfl
            obtain ⟨hrow, BF⟩ := P4.fin B4 { t with ins := ⟨u, j, c⟩ }
            obtain ⟨c1, c2, c3, c4, c5, c6, c7, c8, c9, c10, c11, c12⟩ := P4.walk
            replace P4 := Box.mk P4
            replace hR := Box.mk hR
            replace hO2 := Box.mk hO2
            replace heq := Box.mk heq
            replace hx := Box.mk hx
            replace hy := Box.mk hy
            replace hv2 := Box.mk hv2
            go_wp2
            refine bodyPost_ret (v := valR { t with ins := ⟨u, j, c⟩ } [] 30) (res3 Try.results101 (res_tx (b := W.heap.size + 1) (o := 0) (by simp [go_sem]) hrow) (v2 := .string (sB [])) (v3 := .int .i64 30) (by simp [oneRes]; try rfl) (by simp [oneRes]; try rfl)) rfl ?_
            exact PtTo.err hO2.out (by omega) BF
          · have hv2 := getV_ok (k := 4) (by omega) (by omega) hy
            rw [show getV q1 4 = (x2, q2, 0) from hv2]
            simp only [val3]
            have hq2 : q2.length ≤ 1000000 := by have := (numR_le hy).1; omega
            have hlt1 := (numR_le hy).2
            have hel : ptR s' = .ok ((⟨x1, (x2 : Int)⟩ : PointV), q2) := by unfold ptR; rw [hx, thenR_ok, hy]; rfl
            have heq2 : behind (l' ++ [(⟨x1, (x2 : Int)⟩ : PointV)]) (listR ptR (n - (j + 1)) q2) = listR ptR n r := by rw [← heq]; exact (behind_ok l' hel).symm
            have hn4 : (x2 : Int) % 4294967296 = x2 := by omega
            replace hlt1 := Box.mk hlt1
            replace hel := Box.mk hel
            replace heq2 := Box.mk heq2
            replace heq := Box.mk heq
            replace hx := Box.mk hx
            replace hy := Box.mk hy
            replace hv2 := Box.mk hv2
            have rk := key_row' hk4
            have sk : w2.heap.size < w4.heap.size := by omega
            obtain ⟨c1, c2, c3, c4, c5, c6, c7, c8, c9, c10, c11, c12⟩ := P4.walk
            replace P4 := Box.mk P4
            replace hk4 := Box.mk hk4
            replace hk3 := Box.mk hk3
            go_wp2_with fail
            clear c1 c2 c3 c4 c5 c6 c7 c8 c9 c10 c11 c12
            clear rk sk
            obtain ⟨u', c', w6, hap, own6, b6, z6⟩ := rapp_pt (ty := 35) own4.out (by omega) (⟨x1, (x2 : Int)⟩ : PointV) (by have := hll.out; omega)
            rw [hll.out] at hap own6
            skip
            rw [hap]
            replace hap := Box.mk hap
            have P6 := P4.out.base b6 (Nat.le_refl _)
            have B6 : Below W.heap.size W w6 := B4.trans (b6.mono (by omega))
            have P7 := P6.set (txC_set1 { t with ins := ⟨u, j, c⟩ } u' (j + 1) c')
            have own7 : Own pointC 33 59 (w6.setCell ⟨W.heap.size, 1, none⟩ (.slice u' (j + 1) c')) (W.heap.size + 2) (.slice u' (j + 1) c') _ := own6.congr (fun g hg hl => heap_setCell_ne' (by omega) _)
            have B7 : Below W.heap.size W (w6.setCell ⟨W.heap.size, 1, none⟩ (.slice u' (j + 1) c')) := Below.setCell B6 (Nat.le_refl _) _
            have z7 : (w6.setCell ⟨W.heap.size, 1, none⟩ (.slice u' (j + 1) c')).heap.size = w6.heap.size := by simp [World.setCell]
            obtain ⟨c1, c2, c3, c4, c5, c6, c7, c8, c9, c10, c11, c12⟩ := P6.walk
            replace P6 := Box.mk P6
            replace P7 := Box.mk P7
            replace own6 := Box.mk own6
            replace own7 := Box.mk own7
            replace z7 := Box.mk z7
            go_wp2
            go_roundw
            case rel => exact ⟨B7, by have := z7.out; omega, j + 1, q2, l' ++ [(⟨x1, (x2 : Int)⟩ : PointV)], by omega, by go_num, rfl, hq2, by simp [hll.out], heq2.out, u', c', P7.out, own7.out⟩
            case measure => simp [intOf]; omega
      · obtain rfl : j = n := by omega
        rw [Nat.sub_self, behind_zero] at heq
        have hO2 : o = .ok ({ d with ins := l' }, s') := by rw [hO.out, ← heq]; rfl
        have hall := listR_all (fun _ _ _ h => ptR_idx h) _ _ _ _ heq.symm
        obtain ⟨hrow, BF⟩ := P.fin hbr { t with ins := ⟨u, j, c⟩ }
        have ownF := hown.congr (w' := wr.setCells (W.heap.size + 1) 0 (txC { t with ins := ⟨u, j, c⟩ })) (fun g hg hl => heap_setCells_ne (by omega) _ _)
        obtain ⟨c1, c2, c3, c4, c5, c6, c7, c8, c9, c10, c11, c12⟩ := P.walk
        replace P := Box.mk P
        replace hown := Box.mk hown
        replace ownF := Box.mk ownF
        replace heq := Box.mk heq
        replace hO2 := Box.mk hO2
        replace hall := Box.mk hall
        replace hll := Box.mk hll
        replace hsl := Box.mk hsl
        go_wp2
        refine bodyPost_ret (v := valR { t with ins := ⟨u, j, c⟩ } s' 0) (res3 Try.results101 (res_tx (b := W.heap.size + 1) (o := 0) (by simp [go_sem]) hrow) (v2 := .string (sB s')) (v3 := .int .i64 0) (by simp [oneRes]; try rfl) (by simp [oneRes]; try rfl)) rfl ?_
        have L := H.out.below BF
        exact PtTo.mk hO2.out ⟨ownF.out.mono (by omega), L.outs, L.nulls, L.notes, hall.out, L.val, L.exp, L.anchor, L.bal⟩ rfl BF

set_option maxHeartbeats 4000000 in
theorem part2 (t : TxV) (d : TxD) (s : List UInt8) (W : World) (B : Nat) (h : TxO B W t d) (hB : B ≤ W.heap.size) (hs : s.length ≤ 1000000) (hi : t.outs = Sl.nil) :
    Calls Try.prog 101 #[.agg (txC t).toArray, .int .i64 2, .string (sB s)] W (PtTo B W (fun _ => True) (thenR (manyR s) fun n r => thenR (listR outR n r) fun l q => .ok ({ d with outs := l }, q))) := by
  have P0 := PB2.start W t
  have B0 : Below W.heap.size W ((W.alloc (.cells (txC t).toArray 41)).alloc (.cells (txC zeroTx).toArray 41)) := ((Below.refl _ _).alloc (Nat.le_refl _) _).alloc (by simp) _
  have hsb := Box.mk hs
  have H := Box.mk h
  clear h hs
  obtain ⟨o, ho⟩ : ∃ o : Got TxD, (thenR (manyR s) fun n r => thenR (listR outR n r) fun l q => .ok ({ d with outs := l }, q)) = o := ⟨_, rfl⟩
  rw [ho]
  go_enter Try.func101, Try.ntmps101
  go_wp2_with fail
  generalize ((W.alloc (.cells (txC t).toArray 41)).alloc (.cells (txC zeroTx).toArray 41)) = w0 at *
  refine (refMany_any s w0 hsb.out).mono ?_
  rintro e w1 ⟨rfl, b1⟩
  have P1 := P0.below b1
  have B1 := B0.trans (b1.mono B0.size)
  replace P0 := Box.mk P0
  rcases hn : manyR s with x | ⟨n, r⟩
  · rw [manyV_err hn]
    have hO : o = .error x := by rw [← ho, hn]; rfl
    have hx := manyR_errne hn
    obtain ⟨hrow, BF⟩ := P1.fin B1 t
    obtain ⟨c1, c2, c3, c4, c5, c6, c7, c8, c9, c10, c11, c12⟩ := P1.walk
    replace P1 := Box.mk P1
    replace hn := Box.mk hn
    replace hO := Box.mk hO
    replace ho := Box.mk ho
    simp only [valMn]
    go_wp2
    refine bodyPost_ret (v := valR t [] x) (res3 Try.results101 (res_tx (b := W.heap.size + 1) (o := 0) (by simp [go_sem]) hrow) (v2 := .string (sB [])) (v3 := .int .i64 x) (by simp [oneRes]; try rfl) (by simp [oneRes]; try rfl)) rfl ?_
    exact PtTo.err hO.out hx BF
  · rw [manyV_ok hn]
    have hO : o = thenR (listR outR n r) fun l q => .ok ({ d with outs := l }, q) := by rw [← ho, hn]; rfl
    have hn40 := (manyR_le hn).2
    have hrl := (manyR_le hn).1
    replace hn := Box.mk hn
    replace hO := Box.mk hO
    replace ho := Box.mk ho
    simp only [valMn]
    have hst : t = { t with outs := ⟨none, 0, 0⟩ } := by cases t; simp only at hi; subst hi; rfl
    rw [hst] at P1
    replace hst := Box.mk hst
    replace hi := Box.mk hi
    go_wp2_with fail
    go_loopw [13, 22] (fun sv i wr => Below W.heap.size W wr ∧ W.heap.size + 2 ≤ wr.heap.size ∧ ∃ j : Nat, ∃ s' : List UInt8, ∃ l' : List OutV, j ≤ n ∧ i = .int .i64 j ∧ sv = .string (sB s') ∧ s'.length ≤ 1000000 ∧ l'.length = j ∧ behind l' (listR outR (n - j) s') = listR outR n r ∧ ∃ u c, PB2 W.heap.size { t with outs := ⟨u, j, c⟩ } wr ∧ Own outC 33 101 wr (W.heap.size + 2) (.slice u j c) l') (fun _ i _ => n - (intOf i).toNat)
    case atStart => exact ⟨B1, by have := P1.walk.2.2.2.1; omega, 0, r, [], Nat.zero_le _, rfl, rfl, by have := hsb.out; omega, rfl, behind_nil _, none, 0, P1, Own.nil _ _ _ _ _⟩
    case round =>
      clear B1 b1
      replace P1 := Box.mk P1
      obtain ⟨hbr, hsz2, j, s', l', hj, rfl, rfl, hsl, hll, heq, u, c, P, hown⟩ := hrel
      have hsz := hbr.size
      by_cases hlt : j < n
      · have hlt' : (j : Int) < (n : Int) := by omega
        have hj1 : n - j = (n - (j + 1)) + 1 := by omega
        rw [hj1] at heq
        replace hj1 := Box.mk hj1
        replace hll := Box.mk hll
        replace hsl := Box.mk hsl
        have hownb := Box.mk hown
        clear hown
        obtain ⟨c1, c2, c3, c4, c5, c6, c7, c8, c9, c10, c11, c12⟩ := P.walk
        go_wp2_with fail
        refine (refGet_any s' 8 wr).mono ?_
        rintro e w2 ⟨rfl, b2⟩
        clear c1 c2 c3 c4 c5 c6 c7 c8 c9 c10 c11 c12
        have P2 := P.below b2
        have B2 := since_next hbr b2
        have own2 := hownb.out.below b2
        have z2 := b2.size
        replace P := Box.mk P
        replace own2 := Box.mk own2
        rcases hx : numR 8 s' with x | ⟨x1, q1⟩
        · obtain ⟨hv, rfl⟩ := getV_err (k := 8) (by omega) (by omega) hx
          rw [show getV s' 8 = (0, [], 30) from hv]
          simp only [val3]
          have hR : listR outR n r = .error 30 := by rw [← heq]; exact behind_error l' (by unfold outR; rw [hx]; rfl)
          have hO2 : o = .error 30 := by rw [hO.out, hR]; rfl
          obtain ⟨hrow, BF⟩ := P2.fin B2 { t with outs := ⟨u, j, c⟩ }
          obtain ⟨c1, c2, c3, c4, c5, c6, c7, c8, c9, c10, c11, c12⟩ := P2.walk
          replace P2 := Box.mk P2
          replace hR := Box.mk hR
          replace hO2 := Box.mk hO2
          replace heq := Box.mk heq
          replace hx := Box.mk hx
          replace hv := Box.mk hv
          go_wp2
          refine bodyPost_ret (v := valR { t with outs := ⟨u, j, c⟩ } [] 30) (res3 Try.results101 (res_tx (b := W.heap.size + 1) (o := 0) (by simp [go_sem]) hrow) (v2 := .string (sB [])) (v3 := .int .i64 30) (by simp [oneRes]; try rfl) (by simp [oneRes]; try rfl)) rfl ?_
          exact PtTo.err hO2.out (by omega) BF
        · have hv := getV_ok (k := 8) (by omega) (by omega) hx
          rw [show getV s' 8 = (x1, q1, 0) from hv]
          simp only [val3]
          have hq1 : q1.length ≤ 1000000 := by have := hsl.out; have := (numR_le hx).1; omega
          have hlt1 := (numR_le hx).2
          replace hv := Box.mk hv
          go_wp2_with fail
          refine (refKey_any q1 w2 (by omega)).mono ?_
          rintro e w4 ⟨rfl, b4⟩
          have P4 := P2.below b4
          have B4 := since_next B2 b4
          have own4 := own2.out.below b4
          have z4 := b4.size
          replace own4 := Box.mk own4
          replace P2 := Box.mk P2
          rcases hy : keyR q1 with x | ⟨x2, q2⟩
          · obtain ⟨hv2, rfl⟩ := keyV_err hy
            rw [show keyV q1 = (zeroKey, [], 30) from hv2]
            simp only [valK]
            have b5 : Below w4.heap.size w4 (w4.alloc (.cells (keyC zeroKey).toArray 38)) := (Below.refl _ _).alloc (Nat.le_refl _) _
            have P5 := P4.below b5
            have B5 := since_next B4 b5
            have hR : listR outR n r = .error 30 := by rw [← heq]; exact behind_error l' (by unfold outR; rw [hx, thenR_ok, hy]; rfl)
            have hO2 : o = .error 30 := by rw [hO.out, hR]; rfl
            obtain ⟨hrow, BF⟩ := P5.fin B5 { t with outs := ⟨u, j, c⟩ }
            obtain ⟨c1, c2, c3, c4, c5, c6, c7, c8, c9, c10, c11, c12⟩ := P5.walk
            replace P4 := Box.mk P4
            replace P5 := Box.mk P5
            replace b5 := Box.mk b5
            replace hR := Box.mk hR
            replace hO2 := Box.mk hO2
            replace heq := Box.mk heq
            replace hx := Box.mk hx
            replace hy := Box.mk hy
            replace hv2 := Box.mk hv2
            go_wp2
            refine bodyPost_ret (v := valR { t with outs := ⟨u, j, c⟩ } [] 30) (res3 Try.results101 (res_tx (b := W.heap.size + 1) (o := 0) (by simp [go_sem]) hrow) (v2 := .string (sB [])) (v3 := .int .i64 30) (by simp [oneRes]; try rfl) (by simp [oneRes]; try rfl)) rfl ?_
            exact PtTo.err hO2.out (by omega) BF
          · have hv2 := keyV_ok hy
            rw [show keyV q1 = (x2, q2, 0) from hv2]
            simp only [valK]
            have hq2 : q2.length ≤ 1000000 := by have := keyR_le hy; omega
            have hel : outR s' = .ok ((⟨i64N x1, x2⟩ : OutV), q2) := by unfold outR; rw [hx, thenR_ok, hy]; rfl
            have heq2 : behind (l' ++ [(⟨i64N x1, x2⟩ : OutV)]) (listR outR (n - (j + 1)) q2) = listR outR n r := by rw [← heq]; exact (behind_ok l' hel).symm
            have hw64 : wrap64 (x1 : Int) = i64N x1 := rfl
            replace hlt1 := Box.mk hlt1
            replace hel := Box.mk hel
            replace heq2 := Box.mk heq2
            replace heq := Box.mk heq
            replace hx := Box.mk hx
            replace hy := Box.mk hy
            replace hv2 := Box.mk hv2
            have b5 : Below w4.heap.size w4 (w4.alloc (.cells (keyC x2).toArray 38)) := (Below.refl _ _).alloc (Nat.le_refl _) _
            have hk5 := heap_alloc_new w4 (.cells (keyC x2).toArray 38)
            have z5 : (w4.alloc (.cells (keyC x2).toArray 38)).heap.size = w4.heap.size + 1 := by simp
            have P5 := P4.below b5
            have B5 := since_next B4 b5
            have own5 := own4.out.below b5
            have rk := key_row' hk5
            have sk : w4.heap.size < (w4.alloc (.cells (keyC x2).toArray 38)).heap.size := by omega
            obtain ⟨c1, c2, c3, c4, c5, c6, c7, c8, c9, c10, c11, c12⟩ := P5.walk
            replace P4 := Box.mk P4
            replace P5 := Box.mk P5
            replace hk5 := Box.mk hk5
            have own5b := Box.mk own5
            clear own5
            go_wp2_with fail
            generalize w4.alloc (.cells (keyC x2).toArray 38) = w5 at *
            clear c1 c2 c3 c4 c5 c6 c7 c8 c9 c10 c11 c12
            clear rk sk
            obtain ⟨u', c', w6, hap, own6, b6, z6⟩ := rapp_out (ty := 36) own5b.out (by omega) (⟨i64N x1, x2⟩ : OutV) (by have := hll.out; omega)
            rw [hll.out] at hap own6
            rw [z5] at hap
            rw [hap]
            replace hap := Box.mk hap
            have P6 := P5.out.base b6 (Nat.le_refl _)
            have B6 : Below W.heap.size W w6 := B5.trans (b6.mono (by omega))
            have P7 := P6.set (txC_set2 { t with outs := ⟨u, j, c⟩ } u' (j + 1) c')
            have own7 : Own outC 33 101 (w6.setCell ⟨W.heap.size, 2, none⟩ (.slice u' (j + 1) c')) (W.heap.size + 2) (.slice u' (j + 1) c') _ := own6.congr (fun g hg hl => heap_setCell_ne' (by omega) _)
            have B7 : Below W.heap.size W (w6.setCell ⟨W.heap.size, 2, none⟩ (.slice u' (j + 1) c')) := Below.setCell B6 (Nat.le_refl _) _
            have z7 : (w6.setCell ⟨W.heap.size, 2, none⟩ (.slice u' (j + 1) c')).heap.size = w6.heap.size := by simp [World.setCell]
            obtain ⟨c1, c2, c3, c4, c5, c6, c7, c8, c9, c10, c11, c12⟩ := P6.walk
            replace P6 := Box.mk P6
            replace P7 := Box.mk P7
            replace own6 := Box.mk own6
            replace own7 := Box.mk own7
            replace z7 := Box.mk z7
            go_wp2
            go_roundw
            case rel => exact ⟨B7, by have := z7.out; omega, j + 1, q2, l' ++ [(⟨i64N x1, x2⟩ : OutV)], by omega, by go_num, rfl, hq2, by simp [hll.out], heq2.out, u', c', P7.out, own7.out⟩
            case measure => simp [intOf]; omega
      · obtain rfl : j = n := by omega
        rw [Nat.sub_self, behind_zero] at heq
        have hO2 : o = .ok ({ d with outs := l' }, s') := by rw [hO.out, ← heq]; rfl
        have hall := listR_all (fun _ _ _ h => outR_val h) _ _ _ _ heq.symm
        obtain ⟨hrow, BF⟩ := P.fin hbr { t with outs := ⟨u, j, c⟩ }
        have ownF := hown.congr (w' := wr.setCells (W.heap.size + 1) 0 (txC { t with outs := ⟨u, j, c⟩ })) (fun g hg hl => heap_setCells_ne (by omega) _ _)
        obtain ⟨c1, c2, c3, c4, c5, c6, c7, c8, c9, c10, c11, c12⟩ := P.walk
        replace P := Box.mk P
        replace hown := Box.mk hown
        replace ownF := Box.mk ownF
        replace heq := Box.mk heq
        replace hO2 := Box.mk hO2
        replace hall := Box.mk hall
        replace hll := Box.mk hll
        replace hsl := Box.mk hsl
        go_wp2
        refine bodyPost_ret (v := valR { t with outs := ⟨u, j, c⟩ } s' 0) (res3 Try.results101 (res_tx (b := W.heap.size + 1) (o := 0) (by simp [go_sem]) hrow) (v2 := .string (sB s')) (v3 := .int .i64 0) (by simp [oneRes]; try rfl) (by simp [oneRes]; try rfl)) rfl ?_
        have L := H.out.below BF
        exact PtTo.mk hO2.out ⟨L.ins, ownF.out.mono (by omega), L.nulls, L.notes, L.idx, hall.out, L.exp, L.anchor, L.bal⟩ trivial BF

theorem listR_err30 {n : Nat} : ∀ {s : List UInt8} {x : Int}, listR keyR n s = .error x → x = 30 := by
  induction n with
  | zero => intro s x h; cases h
  | succ n ih =>
    intro s x h
    unfold listR at h
    rcases hk : keyR s with y | ⟨k, r⟩
    · rw [hk] at h
      injection h with h
      rw [← h]; exact (keyV_err hk).2
    · rw [hk, thenR_ok] at h
      rcases hl : listR keyR n r with y | ⟨l, q⟩
      · rw [hl] at h
        injection h with h
        rw [← h]; exact ih hl
      · rw [hl] at h; cases h

set_option maxHeartbeats 4000000 in
theorem part4 (t : TxV) (d : TxD) (s : List UInt8) (W : World) (B : Nat) (h : TxO B W t d) (hB : B ≤ W.heap.size) (hs : s.length ≤ 1000000) :
    Calls Try.prog 101 #[.agg (txC t).toArray, .int .i64 4, .string (sB s)] W (PtTo B W (fun _ => True) (thenR (manyR s) fun n r => thenR (listR keyR n r) fun l q => .ok ({ d with notes := l }, q))) := by
  have P0 := PB2.start W t
  have B0 : Below W.heap.size W ((W.alloc (.cells (txC t).toArray 41)).alloc (.cells (txC zeroTx).toArray 41)) := ((Below.refl _ _).alloc (Nat.le_refl _) _).alloc (by simp) _
  have hsb := Box.mk hs
  have H := Box.mk h
  clear h hs
  obtain ⟨o, ho⟩ : ∃ o : Got TxD, (thenR (manyR s) fun n r => thenR (listR keyR n r) fun l q => .ok ({ d with notes := l }, q)) = o := ⟨_, rfl⟩
  rw [ho]
  go_enter Try.func101, Try.ntmps101
  go_wp2_with fail
  generalize ((W.alloc (.cells (txC t).toArray 41)).alloc (.cells (txC zeroTx).toArray 41)) = w0 at *
  refine (refMany_any s w0 hsb.out).mono ?_
  rintro e w1 ⟨rfl, b1⟩
  have P1 := P0.below b1
  have B1 := B0.trans (b1.mono B0.size)
  replace P0 := Box.mk P0
  rcases hn : manyR s with x | ⟨n, r⟩
  · rw [manyV_err hn]
    have hO : o = .error x := by rw [← ho, hn]; rfl
    have hx := manyR_errne hn
    obtain ⟨hrow, BF⟩ := P1.fin B1 t
    obtain ⟨c1, c2, c3, c4, c5, c6, c7, c8, c9, c10, c11, c12⟩ := P1.walk
    replace P1 := Box.mk P1
    replace hn := Box.mk hn
    replace hO := Box.mk hO
    replace ho := Box.mk ho
    simp only [valMn]
    go_wp2
    refine bodyPost_ret (v := valR t [] x) (res3 Try.results101 (res_tx (b := W.heap.size + 1) (o := 0) (by simp [go_sem]) hrow) (v2 := .string (sB [])) (v3 := .int .i64 x) (by simp [oneRes]; try rfl) (by simp [oneRes]; try rfl)) rfl ?_
    exact PtTo.err hO.out hx BF
  · rw [manyV_ok hn]
    have hn40 := (manyR_le hn).2
    have hrl := (manyR_le hn).1
    simp only [valMn]
    have hO : o = thenR (listR keyR n r) fun l q => .ok ({ d with notes := l }, q) := by rw [← ho, hn]; rfl
    replace hn := Box.mk hn
    replace hO := Box.mk hO
    replace ho := Box.mk ho
    have hql : r.length ≤ 1000000 := by have := hsb.out; omega
    go_wp2_with fail
    refine (refKeys_any n r w1 hn40 hql).mono ?_
    rcases hk : listR keyR n r with x | ⟨l, q9⟩
    · rintro e w9 ⟨rfl, b9⟩
      have hx9 : ¬ x = 0 := by rw [listR_err30 hk]; omega
      have P9 := P1.below b9
      have B9 := B1.trans (b9.mono B1.size)
      have hO2 : o = .error x := by rw [hO.out, hk]; rfl
      have P10 := P9.set (txC_set36 t none 0 0)
      obtain ⟨hrow, BF⟩ := P10.fin (Below.setCell B9 (Nat.le_refl _) _) { t with notes := ⟨none, 0, 0⟩ }
      obtain ⟨c1, c2, c3, c4, c5, c6, c7, c8, c9, c10, c11, c12⟩ := P9.walk
      obtain ⟨d1, d2, d3, d4, -⟩ := P10.walk
      replace P9 := Box.mk P9
      replace P10 := Box.mk P10
      replace P1 := Box.mk P1
      replace hO2 := Box.mk hO2
      replace hk := Box.mk hk
      go_wp2
      refine bodyPost_ret (v := valR { t with notes := ⟨none, 0, 0⟩ } [] x) (res3 Try.results101 (res_tx (b := W.heap.size + 1) (o := 0) (by simp [go_sem]) hrow) (v2 := .string (sB [])) (v3 := .int .i64 x) (by simp [oneRes]; try rfl) (by simp [oneRes]; try rfl)) rfl ?_
      exact PtTo.err hO2.out hx9 BF
    · rintro e w9 ⟨a9, n9, k9, rfl, own9, b9⟩
      have P9 := P1.below b9
      have B9 := B1.trans (b9.mono B1.size)
      have z0 := P1.walk.2.2.2.1
      have hO2 : o = .ok ({ d with notes := l }, q9) := by rw [hO.out, hk]; rfl
      have P10 := P9.set (txC_set36 t a9 n9 k9)
      obtain ⟨hrow, BF⟩ := P10.fin (Below.setCell B9 (Nat.le_refl _) _) { t with notes := ⟨a9, n9, k9⟩ }
      have ownF := (own9.congr (w' := w9.setCell ⟨W.heap.size, 36, none⟩ (.slice a9 n9 k9)) (fun g hg hl => heap_setCell_ne' (by omega) _)).congr (w' := (w9.setCell ⟨W.heap.size, 36, none⟩ (.slice a9 n9 k9)).setCells (W.heap.size + 1) 0 (txC { t with notes := ⟨a9, n9, k9⟩ })) (fun g hg hl => heap_setCells_ne (by omega) _ _)
      obtain ⟨c1, c2, c3, c4, c5, c6, c7, c8, c9, c10, c11, c12⟩ := P9.walk
      obtain ⟨d1, d2, d3, d4, -⟩ := P10.walk
      replace P9 := Box.mk P9
      replace P10 := Box.mk P10
      replace P1 := Box.mk P1
      replace hO2 := Box.mk hO2
      replace hk := Box.mk hk
      replace own9 := Box.mk own9
      replace ownF := Box.mk ownF
      go_wp2
      refine bodyPost_ret (v := valR { t with notes := ⟨a9, n9, k9⟩ } q9 0) (res3 Try.results101 (res_tx (b := W.heap.size + 1) (o := 0) (by simp [go_sem]) hrow) (v2 := .string (sB q9)) (v3 := .int .i64 0) (by simp [oneRes]; try rfl) (by simp [oneRes]; try rfl)) rfl ?_
      have L := H.out.below BF
      exact PtTo.mk hO2.out ⟨L.ins, L.outs, L.nulls, ownF.out.mono (by omega), L.idx, L.val, L.exp, L.anchor, L.bal⟩ trivial BF

set_option maxHeartbeats 4000000 in
theorem part3 (t : TxV) (d : TxD) (s : List UInt8) (W : World) (B : Nat) (h : TxO B W t d) (hB : B ≤ W.heap.size) (hs : s.length ≤ 1000000) (hz : d.anchor = zeroKey) :
    Calls Try.prog 101 #[.agg (txC t).toArray, .int .i64 3, .string (sB s)] W (PtTo B W (fun _ => True) (thenR (manyR s) fun n r => thenR (anchorR n r) fun k q => thenR (listR keyR n q) fun l q' => .ok ({ d with anchor := k, nulls := l }, q'))) := by
  have P0 := PB2.start W t
  have B0 : Below W.heap.size W ((W.alloc (.cells (txC t).toArray 41)).alloc (.cells (txC zeroTx).toArray 41)) := ((Below.refl _ _).alloc (Nat.le_refl _) _).alloc (by simp) _
  have hsb := Box.mk hs
  replace hz := Box.mk hz
  have H := Box.mk h
  clear h hs
  obtain ⟨o, ho⟩ : ∃ o : Got TxD, (thenR (manyR s) fun n r => thenR (anchorR n r) fun k q => thenR (listR keyR n q) fun l q' => .ok ({ d with anchor := k, nulls := l }, q')) = o := ⟨_, rfl⟩
  rw [ho]
  go_enter Try.func101, Try.ntmps101
  go_wp2_with fail
  generalize ((W.alloc (.cells (txC t).toArray 41)).alloc (.cells (txC zeroTx).toArray 41)) = w0 at *
  refine (refMany_any s w0 hsb.out).mono ?_
  rintro e w1 ⟨rfl, b1⟩
  have P1 := P0.below b1
  have B1 := B0.trans (b1.mono B0.size)
  replace P0 := Box.mk P0
  rcases hn : manyR s with x | ⟨n, r⟩
  · rw [manyV_err hn]
    have hO : o = .error x := by rw [← ho, hn]; rfl
    have hx := manyR_errne hn
    obtain ⟨hrow, BF⟩ := P1.fin B1 t
    obtain ⟨c1, c2, c3, c4, c5, c6, c7, c8, c9, c10, c11, c12⟩ := P1.walk
    replace P1 := Box.mk P1
    replace hn := Box.mk hn
    replace hO := Box.mk hO
    replace ho := Box.mk ho
    simp only [valMn]
    go_wp2
    refine bodyPost_ret (v := valR t [] x) (res3 Try.results101 (res_tx (b := W.heap.size + 1) (o := 0) (by simp [go_sem]) hrow) (v2 := .string (sB [])) (v3 := .int .i64 x) (by simp [oneRes]; try rfl) (by simp [oneRes]; try rfl)) rfl ?_
    exact PtTo.err hO.out hx BF
  · rw [manyV_ok hn]
    have hn40 := (manyR_le hn).2
    have hrl := (manyR_le hn).1
    simp only [valMn]
    have hO1 : o = thenR (anchorR n r) fun k q => thenR (listR keyR n q) fun l q' => .ok ({ d with anchor := k, nulls := l }, q') := by rw [← ho, hn]; rfl
    replace hn := Box.mk hn
    replace ho := Box.mk ho
    by_cases h0 : n = 0
    · have h0' : ¬ (0 : Int) < (n : Int) := by omega
      have hO : o = thenR (listR keyR n r) fun l q' => .ok ({ d with anchor := zeroKey, nulls := l }, q') := by rw [hO1]; unfold anchorR; rw [if_neg (by omega)]; rfl
      replace hO1 := Box.mk hO1
      replace hO := Box.mk hO
      have hql : r.length ≤ 1000000 := by have := hsb.out; omega
      replace h0 := Box.mk h0
      go_wp2_with fail
      refine (refKeys_any n r w1 hn40 hql).mono ?_
      rcases hk : listR keyR n r with x | ⟨l, q9⟩
      · rintro e w9 ⟨rfl, b9⟩
        have hx9 : ¬ x = 0 := by rw [listR_err30 hk]; omega
        have P9 := P1.below b9
        have B9 := B1.trans (b9.mono B1.size)
        have hO2 : o = .error x := by rw [hO.out, hk]; rfl
        have P10 := P9.set (txC_set35 t none 0 0)
        obtain ⟨hrow, BF⟩ := P10.fin (Below.setCell B9 (Nat.le_refl _) _) { t with nulls := ⟨none, 0, 0⟩ }
        obtain ⟨c1, c2, c3, c4, c5, c6, c7, c8, c9, c10, c11, c12⟩ := P9.walk
        obtain ⟨d1, d2, d3, d4, -⟩ := P10.walk
        replace P9 := Box.mk P9
        replace P10 := Box.mk P10
        replace P1 := Box.mk P1
        replace hO2 := Box.mk hO2
        replace hk := Box.mk hk
        go_wp2
        refine bodyPost_ret (v := valR { t with nulls := ⟨none, 0, 0⟩ } [] x) (res3 Try.results101 (res_tx (b := W.heap.size + 1) (o := 0) (by simp [go_sem]) hrow) (v2 := .string (sB [])) (v3 := .int .i64 x) (by simp [oneRes]; try rfl) (by simp [oneRes]; try rfl)) rfl ?_
        exact PtTo.err hO2.out hx9 BF
      · rintro e w9 ⟨a9, n9, k9, rfl, own9, b9⟩
        have P9 := P1.below b9
        have B9 := B1.trans (b9.mono B1.size)
        have z0 := P1.walk.2.2.2.1
        have hO2 : o = .ok ({ { d with anchor := zeroKey } with nulls := l }, q9) := by rw [hO.out, hk]; rfl
        have P10 := P9.set (txC_set35 t a9 n9 k9)
        obtain ⟨hrow, BF⟩ := P10.fin (Below.setCell B9 (Nat.le_refl _) _) { t with nulls := ⟨a9, n9, k9⟩ }
        have ownF := (own9.congr (w' := w9.setCell ⟨W.heap.size, 35, none⟩ (.slice a9 n9 k9)) (fun g hg hl => heap_setCell_ne' (by omega) _)).congr (w' := (w9.setCell ⟨W.heap.size, 35, none⟩ (.slice a9 n9 k9)).setCells (W.heap.size + 1) 0 (txC { t with nulls := ⟨a9, n9, k9⟩ })) (fun g hg hl => heap_setCells_ne (by omega) _ _)
        obtain ⟨c1, c2, c3, c4, c5, c6, c7, c8, c9, c10, c11, c12⟩ := P9.walk
        obtain ⟨d1, d2, d3, d4, -⟩ := P10.walk
        replace P9 := Box.mk P9
        replace P10 := Box.mk P10
        replace P1 := Box.mk P1
        replace hO2 := Box.mk hO2
        replace hk := Box.mk hk
        replace own9 := Box.mk own9
        replace ownF := Box.mk ownF
        go_wp2
        refine bodyPost_ret (v := valR { t with nulls := ⟨a9, n9, k9⟩ } q9 0) (res3 Try.results101 (res_tx (b := W.heap.size + 1) (o := 0) (by simp [go_sem]) hrow) (v2 := .string (sB q9)) (v3 := .int .i64 0) (by simp [oneRes]; try rfl) (by simp [oneRes]; try rfl)) rfl ?_
        have L := H.out.below BF
        exact PtTo.mk hO2.out ⟨L.ins, L.outs, ownF.out.mono (by omega), L.notes, L.idx, L.val, L.exp, L.anchor.trans hz.out, L.bal⟩ trivial BF
    · have h0' : (0 : Int) < (n : Int) := by omega
      have hO2 : o = thenR (keyR r) fun k q => thenR (listR keyR n q) fun l q' => .ok ({ d with anchor := k, nulls := l }, q') := by rw [hO1]; unfold anchorR; rw [if_pos (by omega)]
      replace hO1 := Box.mk hO1
      replace h0 := Box.mk h0
      have hrq : r.length ≤ 1000000 := by have := hsb.out; omega
      go_wp2_with fail
      refine (refKey_any r w1 (by omega)).mono ?_
      rintro e w2 ⟨rfl, b2⟩
      have P2 := P1.below b2
      have B2 := B1.trans (b2.mono B1.size)
      replace P1 := Box.mk P1
      rcases hx : keyR r with x | ⟨k, q⟩
      · obtain ⟨hv, rfl⟩ := keyV_err hx
        rw [hv]
        simp only [valK]
        have hO3 : o = .error 30 := by rw [hO2, hx]; rfl
        have b3 : Below w2.heap.size w2 (w2.alloc (.cells (keyC zeroKey).toArray 38)) := (Below.refl _ _).alloc (Nat.le_refl _) _
        have P3 := P2.below b3
        have B3 := B2.trans (b3.mono B2.size)
        obtain ⟨hrow, BF⟩ := P3.fin B3 t
        obtain ⟨c1, c2, c3, c4, c5, c6, c7, c8, c9, c10, c11, c12⟩ := P3.walk
        replace P3 := Box.mk P3
        replace P2 := Box.mk P2
        replace b3 := Box.mk b3
        replace hv := Box.mk hv
        replace hx := Box.mk hx
        replace hO2 := Box.mk hO2
        replace hO3 := Box.mk hO3
        go_wp2
        refine bodyPost_ret (v := valR t [] 30) (res3 Try.results101 (res_tx (b := W.heap.size + 1) (o := 0) (by simp [go_sem]) hrow) (v2 := .string (sB [])) (v3 := .int .i64 30) (by simp [oneRes]; try rfl) (by simp [oneRes]; try rfl)) rfl ?_
        exact PtTo.err hO3.out (by omega) BF
      · have hv := keyV_ok hx
        rw [hv]
        simp only [valK]
        have hO : o = thenR (listR keyR n q) fun l q' => .ok ({ d with anchor := k, nulls := l }, q') := by rw [hO2, hx]; rfl
        have hql : q.length ≤ 1000000 := by have := keyR_le hx; omega
        replace hv := Box.mk hv
        replace hx := Box.mk hx
        replace hO2 := Box.mk hO2
        replace hO := Box.mk hO
        have b3 : Below w2.heap.size w2 (w2.alloc (.cells (keyC k).toArray 38)) := (Below.refl _ _).alloc (Nat.le_refl _) _
        have hk3 := heap_alloc_new w2 (.cells (keyC k).toArray 38)
        have z3 : (w2.alloc (.cells (keyC k).toArray 38)).heap.size = w2.heap.size + 1 := by simp
        have P3 := P2.below b3
        have B3 := B2.trans (b3.mono B2.size)
        have rk := key_row' hk3
        have sk : w2.heap.size < (w2.alloc (.cells (keyC k).toArray 38)).heap.size := by omega
        have P4 := P3.setA k
        have B4 := below_setCells (Nat.le_refl _) (keyC k) 3 _ _ B3
        obtain ⟨c1, c2, c3, c4, c5, c6, c7, c8, c9, c10, c11, c12⟩ := P3.walk
        replace P2 := Box.mk P2
        replace P3 := Box.mk P3
        replace hk3 := Box.mk hk3
        replace b3 := Box.mk b3
        go_wp2_with fail
        clear c1 c2 c3 c4 c5 c6 c7 c8 c9 c10 c11 c12 rk sk
        generalize (w2.alloc (.cells (keyC k).toArray 38)).setCells W.heap.size 3 (keyC k) = w4 at *
        refine (refKeys_any n q w4 hn40 hql).mono ?_
        rcases hk : listR keyR n q with x | ⟨l, q9⟩
        · rintro e w9 ⟨rfl, b9⟩
          have hx9 : ¬ x = 0 := by rw [listR_err30 hk]; omega
          have P9 := P4.below b9
          have B9 := B4.trans (b9.mono B4.size)
          have hO2 : o = .error x := by rw [hO.out, hk]; rfl
          have P10 := P9.set (txC_set35 { t with anchor := k } none 0 0)
          obtain ⟨hrow, BF⟩ := P10.fin (Below.setCell B9 (Nat.le_refl _) _) { { t with anchor := k } with nulls := ⟨none, 0, 0⟩ }
          obtain ⟨c1, c2, c3, c4, c5, c6, c7, c8, c9, c10, c11, c12⟩ := P9.walk
          obtain ⟨d1, d2, d3, d4, -⟩ := P10.walk
          replace P9 := Box.mk P9
          replace P10 := Box.mk P10
          replace P4 := Box.mk P4
          replace hO2 := Box.mk hO2
          replace hk := Box.mk hk
          go_wp2
          refine bodyPost_ret (v := valR { { t with anchor := k } with nulls := ⟨none, 0, 0⟩ } [] x) (res3 Try.results101 (res_tx (b := W.heap.size + 1) (o := 0) (by simp [go_sem]) hrow) (v2 := .string (sB [])) (v3 := .int .i64 x) (by simp [oneRes]; try rfl) (by simp [oneRes]; try rfl)) rfl ?_
          exact PtTo.err hO2.out hx9 BF
        · rintro e w9 ⟨a9, n9, k9, rfl, own9, b9⟩
          have P9 := P4.below b9
          have B9 := B4.trans (b9.mono B4.size)
          have z0 := P4.walk.2.2.2.1
          have hO2 : o = .ok ({ { d with anchor := k } with nulls := l }, q9) := by rw [hO.out, hk]; rfl
          have P10 := P9.set (txC_set35 { t with anchor := k } a9 n9 k9)
          obtain ⟨hrow, BF⟩ := P10.fin (Below.setCell B9 (Nat.le_refl _) _) { { t with anchor := k } with nulls := ⟨a9, n9, k9⟩ }
          have ownF := (own9.congr (w' := w9.setCell ⟨W.heap.size, 35, none⟩ (.slice a9 n9 k9)) (fun g hg hl => heap_setCell_ne' (by omega) _)).congr (w' := (w9.setCell ⟨W.heap.size, 35, none⟩ (.slice a9 n9 k9)).setCells (W.heap.size + 1) 0 (txC { { t with anchor := k } with nulls := ⟨a9, n9, k9⟩ })) (fun g hg hl => heap_setCells_ne (by omega) _ _)
          obtain ⟨c1, c2, c3, c4, c5, c6, c7, c8, c9, c10, c11, c12⟩ := P9.walk
          obtain ⟨d1, d2, d3, d4, -⟩ := P10.walk
          replace P9 := Box.mk P9
          replace P10 := Box.mk P10
          replace P4 := Box.mk P4
          replace hO2 := Box.mk hO2
          replace hk := Box.mk hk
          replace own9 := Box.mk own9
          replace ownF := Box.mk ownF
          go_wp2
          refine bodyPost_ret (v := valR { { t with anchor := k } with nulls := ⟨a9, n9, k9⟩ } q9 0) (res3 Try.results101 (res_tx (b := W.heap.size + 1) (o := 0) (by simp [go_sem]) hrow) (v2 := .string (sB q9)) (v3 := .int .i64 0) (by simp [oneRes]; try rfl) (by simp [oneRes]; try rfl)) rfl ?_
          have L := H.out.below BF
          exact PtTo.mk hO2.out ⟨L.ins, L.outs, ownF.out.mono (by omega), L.notes, L.idx, L.val, L.exp, rfl, L.bal⟩ trivial BF

end Go.Proofs.Ytahkiabpjfcfdaa
