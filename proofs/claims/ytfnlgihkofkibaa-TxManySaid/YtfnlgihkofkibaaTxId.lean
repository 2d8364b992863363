/- Layer 5: a transaction's name; the document's Coinbase. (printed by mktxid.py) -/
import Derived.Test.YtfnlgihkofkibaaTxCoin
import Derived.Test.YtfnlgihkofkibaaShaRef5
import Derived.Test.YtfnlgihkofkibaaRes
import Derived.Test.YtfnlgihkofkibaaSame
namespace Go.Proofs.Ytfnlgihkofkibaa
open Go.RowKit
set_option linter.unusedVariables false
set_option linter.unusedSimpArgs false
set_option maxRecDepth 100000
attribute [local irreducible] Int.lt Int.le
attribute [local go_sem ↓] load_key store_key alloc_key build0_key eq_key load_point store_point alloc_point load_out store_out alloc_out load_tx store_tx alloc_tx build0_tx
attribute [local go_sem] rowOf_drew rowOf_alloc_old rowOf_alloc_new canPut_drew canPut_alloc_old canPut_alloc_new setCells_alloc_new

/-- A transaction's name, or its errno. -/
@[irreducible] def nameV (d : TxD) : Key × Int := if (encV d).2 = 0 then (doubleK (encV d).1, 0) else (zeroKey, (encV d).2)
def valNm (r : Key × Int) : Value := .tuple #[.agg (keyC r.1).toArray, .int .i64 r.2]
theorem nameV_ok {d : TxD} {s : List UInt8} (h : encV d = (s, 0)) : nameV d = (doubleK s, 0) := by unfold nameV; rw [h]; rfl
theorem nameV_err {d : TxD} {s : List UInt8} {x : Int} (h : encV d = (s, x)) (hx : ¬ x = 0) : nameV d = (zeroKey, x) := by unfold nameV; rw [h]; exact if_neg hx
theorem encB_le {d : TxD} (h : manyB d = false) : (encB d).length ≤ 1000000 := by
  have := encB_length h
  obtain ⟨h1, h2, h3, h4⟩ := manyB_false h
  split at this <;> omega

set_option maxHeartbeats 2000000 in
theorem id_any (t : TxV) (d : TxD) (W : World) (h : TxL W t d) : Calls Try.prog 20 #[.agg (txC t).toArray] W (Gives (valNm (nameV d)) W) := by
  have hB0 : Below W.heap.size W (W.alloc (.cells (txC t).toArray 29)) := (Below.refl _ _).alloc (Nat.le_refl _) _
  have hB1 : Below W.heap.size W ((W.alloc (.cells (txC t).toArray 29)).alloc (.cells (keyC zeroKey).toArray 26)) := hB0.alloc (by simp) _
  have hr0 : rowOf ((W.alloc (.cells (txC t).toArray 29)).alloc (.cells (keyC zeroKey).toArray 26)) W.heap.size 0 38 = some (txC t) := by
    rw [rowOf_alloc_old _ _ _ _ _ (by simp)]; exact tx_row38 (heap_alloc_new W _)
  have hk0 : ((W.alloc (.cells (txC t).toArray 29)).alloc (.cells (keyC zeroKey).toArray 26)).heap[W.heap.size + 1]? = some (.cells (keyC zeroKey).toArray 26 (0, 0)) := heap_alloc_new' _ _ _ (by simp)
  have hs0 : ((W.alloc (.cells (txC t).toArray 29)).alloc (.cells (keyC zeroKey).toArray 26)).heap.size = W.heap.size + 1 + 1 := by simp
  have hE := encode_any t d _ (h.below hB1)
  replace h := Box.mk h
  go_enter Try.func20, Try.ntmps20
  go_wp2_with fail
  generalize (W.alloc (.cells (txC t).toArray 29)).alloc (.cells (keyC zeroKey).toArray 26) = w0 at *
  refine hE.mono ?_
  rintro e w1 ⟨rfl, hb1⟩
  have hk1 := keepBlock hb1 hk0
  have B1 := hB1.trans (hb1.mono (by omega))
  have hcp : canPut w1 (W.heap.size + 1) 0 32 = true := canPut_block hk1 0 32 (by simp [keyC_length])
  have l1 : W.heap.size + 1 < w1.heap.size := by have := hb1.size; omega
  clear hr0 hE
  unfold valE
  have fin : ∀ (w : World) (k : Key), Below W.heap.size W w → Below W.heap.size W (w.setCells (W.heap.size + 1) 0 (keyC k)) := fun w k hb => below_setCells (Nat.le_succ _) _ _ _ _ hb
  have row : ∀ (w : World) (k : Key), w.heap[W.heap.size + 1]? = some (.cells (keyC zeroKey).toArray 26 (0, 0)) → rowOf (w.setCells (W.heap.size + 1) 0 (keyC k)) (W.heap.size + 1) 0 32 = some (keyC k) := fun w k hk =>
    rowOf_of_rangeAt (World.rangeAt_setCells_same w (W.heap.size + 1) 0 (keyC k) (by rw [keyC_length]; exact canPut_there.1 (canPut_block hk 0 32 (by simp [keyC_length])))) (keyC_length k)
  replace fin := Box.mk fin
  replace row := Box.mk row
  replace hk1 := Box.mk hk1
  replace hk0 := Box.mk hk0
  replace hs0 := Box.mk hs0
  rcases encV_cases d with ⟨hm, hE⟩ | ⟨hm, _, _, hE⟩ | ⟨hm, _, hE⟩
  · have hN := nameV_err hE (by omega)
    rw [hE]
    replace hE := Box.mk hE
    replace hm := Box.mk hm
    go_wp2
    refine bodyPost_ret (v := valNm (zeroKey, 51)) (res2 Try.results20 (res_key (b := W.heap.size + 1) (o := 0) (by simp [go_sem]) (row.out _ zeroKey hk1.out)) (v2 := .int .i64 51) (by simp [oneRes]; try rfl)) rfl ?_
    exact gives (by rw [hN]) (fin.out _ _ B1)
  · have hN := nameV_err hE (by omega)
    rw [hE]
    replace hE := Box.mk hE
    replace hm := Box.mk hm
    go_wp2
    refine bodyPost_ret (v := valNm (zeroKey, 1)) (res2 Try.results20 (res_key (b := W.heap.size + 1) (o := 0) (by simp [go_sem]) (row.out _ zeroKey hk1.out)) (v2 := .int .i64 1) (by simp [oneRes]; try rfl)) rfl ?_
    exact gives (by rw [hN]) (fin.out _ _ B1)
  · have hN := nameV_ok hE
    have hl := encB_le hm
    rw [hE]
    replace hE := Box.mk hE
    replace hm := Box.mk hm
    generalize encB d = s at *
    replace hl := Box.mk hl
    go_wp2_with fail
    refine (double_any s w1 hl.out).mono ?_
    rintro e w2 ⟨rfl, hb2⟩
    have hk2 := keepBlock hb2 hk1.out
    have hcp2 : canPut w2 (W.heap.size + 1) 0 32 = true := canPut_block hk2 0 32 (by simp [keyC_length])
    have l2 : W.heap.size + 1 < w2.heap.size := by have := hb2.size; omega
    have B2 := B1.trans (hb2.mono (by omega))
    generalize doubleK s = k at *
    replace hk2 := Box.mk hk2
    replace hN := Box.mk hN
    clear hcp l1
    go_wp2
    refine bodyPost_ret (v := valNm (k, 0)) (res2 Try.results20 (res_key (b := W.heap.size + 1) (o := 0) (by simp [go_sem]) (row.out _ k hk2.out)) (v2 := .int .i64 0) (by simp [oneRes]; try rfl)) rfl ?_
    exact gives (by rw [hN.out]) (fin.out _ _ B2)

set_option maxHeartbeats 2000000 in
theorem refId_any (t : TxV) (d : TxD) (W : World) (h : TxL W t d) : Calls Try.prog 24 #[.agg (txC t).toArray] W (Gives (valNm (nameV d)) W) := by
  have hB0 : Below W.heap.size W (W.alloc (.cells (txC t).toArray 29)) := (Below.refl _ _).alloc (Nat.le_refl _) _
  have hB1 : Below W.heap.size W ((W.alloc (.cells (txC t).toArray 29)).alloc (.cells (keyC zeroKey).toArray 26)) := hB0.alloc (by simp) _
  have hr0 : rowOf ((W.alloc (.cells (txC t).toArray 29)).alloc (.cells (keyC zeroKey).toArray 26)) W.heap.size 0 38 = some (txC t) := by
    rw [rowOf_alloc_old _ _ _ _ _ (by simp)]; exact tx_row38 (heap_alloc_new W _)
  have hk0 : ((W.alloc (.cells (txC t).toArray 29)).alloc (.cells (keyC zeroKey).toArray 26)).heap[W.heap.size + 1]? = some (.cells (keyC zeroKey).toArray 26 (0, 0)) := heap_alloc_new' _ _ _ (by simp)
  have hs0 : ((W.alloc (.cells (txC t).toArray 29)).alloc (.cells (keyC zeroKey).toArray 26)).heap.size = W.heap.size + 1 + 1 := by simp
  have hE := refEncode_any t d _ (h.below hB1)
  replace h := Box.mk h
  go_enter Try.func24, Try.ntmps24
  go_wp2_with fail
  generalize (W.alloc (.cells (txC t).toArray 29)).alloc (.cells (keyC zeroKey).toArray 26) = w0 at *
  refine hE.mono ?_
  rintro e w1 ⟨rfl, hb1⟩
  have hk1 := keepBlock hb1 hk0
  have B1 := hB1.trans (hb1.mono (by omega))
  have hcp : canPut w1 (W.heap.size + 1) 0 32 = true := canPut_block hk1 0 32 (by simp [keyC_length])
  have l1 : W.heap.size + 1 < w1.heap.size := by have := hb1.size; omega
  clear hr0 hE
  unfold valE
  have fin : ∀ (w : World) (k : Key), Below W.heap.size W w → Below W.heap.size W (w.setCells (W.heap.size + 1) 0 (keyC k)) := fun w k hb => below_setCells (Nat.le_succ _) _ _ _ _ hb
  have row : ∀ (w : World) (k : Key), w.heap[W.heap.size + 1]? = some (.cells (keyC zeroKey).toArray 26 (0, 0)) → rowOf (w.setCells (W.heap.size + 1) 0 (keyC k)) (W.heap.size + 1) 0 32 = some (keyC k) := fun w k hk =>
    rowOf_of_rangeAt (World.rangeAt_setCells_same w (W.heap.size + 1) 0 (keyC k) (by rw [keyC_length]; exact canPut_there.1 (canPut_block hk 0 32 (by simp [keyC_length])))) (keyC_length k)
  replace fin := Box.mk fin
  replace row := Box.mk row
  replace hk1 := Box.mk hk1
  replace hk0 := Box.mk hk0
  replace hs0 := Box.mk hs0
  rcases encV_cases d with ⟨hm, hE⟩ | ⟨hm, _, _, hE⟩ | ⟨hm, _, hE⟩
  · have hN := nameV_err hE (by omega)
    rw [hE]
    replace hE := Box.mk hE
    replace hm := Box.mk hm
    go_wp2
    refine bodyPost_ret (v := valNm (zeroKey, 51)) (res2 Try.results24 (res_key (b := W.heap.size + 1) (o := 0) (by simp [go_sem]) (row.out _ zeroKey hk1.out)) (v2 := .int .i64 51) (by simp [oneRes]; try rfl)) rfl ?_
    exact gives (by rw [hN]) (fin.out _ _ B1)
  · have hN := nameV_err hE (by omega)
    rw [hE]
    replace hE := Box.mk hE
    replace hm := Box.mk hm
    go_wp2
    refine bodyPost_ret (v := valNm (zeroKey, 1)) (res2 Try.results24 (res_key (b := W.heap.size + 1) (o := 0) (by simp [go_sem]) (row.out _ zeroKey hk1.out)) (v2 := .int .i64 1) (by simp [oneRes]; try rfl)) rfl ?_
    exact gives (by rw [hN]) (fin.out _ _ B1)
  · have hN := nameV_ok hE
    have hl := encB_le hm
    rw [hE]
    replace hE := Box.mk hE
    replace hm := Box.mk hm
    generalize encB d = s at *
    replace hl := Box.mk hl
    go_wp2_with fail
    refine (refDouble_any s w1 hl.out).mono ?_
    rintro e w2 ⟨rfl, hb2⟩
    have hk2 := keepBlock hb2 hk1.out
    have hcp2 : canPut w2 (W.heap.size + 1) 0 32 = true := canPut_block hk2 0 32 (by simp [keyC_length])
    have l2 : W.heap.size + 1 < w2.heap.size := by have := hb2.size; omega
    have B2 := B1.trans (hb2.mono (by omega))
    generalize doubleK s = k at *
    replace hk2 := Box.mk hk2
    replace hN := Box.mk hN
    clear hcp l1
    go_wp2
    refine bodyPost_ret (v := valNm (k, 0)) (res2 Try.results24 (res_key (b := W.heap.size + 1) (o := 0) (by simp [go_sem]) (row.out _ k hk2.out)) (v2 := .int .i64 0) (by simp [oneRes]; try rfl)) rfl ?_
    exact gives (by rw [hN.out]) (fin.out _ _ B2)

set_option maxHeartbeats 1000000 in
theorem refCoinbase_any (t : TxV) (ins : List PointV) (W : World) (h : SL pointC 33 W t.ins.a t.ins.len t.ins.cap ins) : Calls Try.prog 25 #[.agg (txC t).toArray] W (Gives (.bool (cbB ins)) W) := by
  have hB0 : Below W.heap.size W (W.alloc (.cells (txC t).toArray 29)) := (Below.refl _ _).alloc (Nat.le_refl _) _
  have hl := h.1
  have hcap := h.2.1
  match ins, hl with
  | [], hl =>
    replace hl : t.ins.len = 0 := hl
    replace h := Box.mk h
    go_enter Try.func25, Try.ntmps25
    go_wp2
    go_ret
    exact gives_bool rfl hB0
  | [p], hl =>
    replace hl : t.ins.len = 1 := hl
    obtain ⟨b, o, ha, hb, hr⟩ := SL.elem pointC_length h (i := 0) (x := p) rfl
    rw [Nat.zero_mul, Nat.add_zero] at hr
    obtain ⟨c1, c2⟩ := pt_row hr
    replace h := Box.mk h
    replace hr := Box.mk hr
    replace c2 := Box.mk c2
    go_enter Try.func25, Try.ntmps25
    go_wp2
    go_ret
    exact gives_bool rfl hB0
  | p :: q :: r, hl =>
    have hl' : ¬ ((t.ins.len : Int) = 1) := by rw [hl]; simp; omega
    replace h := Box.mk h
    replace hl := Box.mk hl
    go_enter Try.func25, Try.ntmps25
    go_wp2
    go_ret
    exact gives_bool rfl hB0


end Go.Proofs.Ytfnlgihkofkibaa
