/- Layer 6: a block's name, by the program and by the document. (printed by mkblkid.py) -/
import Derived.Test.YtahkiabpjfcfdaaRefBlk
import Derived.Test.YtahkiabpjfcfdaaSha9
import Derived.Test.YtahkiabpjfcfdaaBase2
namespace Go.Proofs.Ytahkiabpjfcfdaa
open Go.RowKit
set_option linter.unusedVariables false
set_option linter.unusedSimpArgs false
set_option maxRecDepth 100000
attribute [local irreducible] Int.lt Int.le
attribute [local go_sem ↓] load_key store_key alloc_key build0_key eq_key load_blk store_blk alloc_blk build0_blk
attribute [local go_sem] rowOf_drew rowOf_alloc_old rowOf_alloc_new canPut_drew canPut_alloc_old canPut_alloc_new setCells_alloc_new

def valNm (r : Key × Int) : Value := .tuple #[.agg (keyC r.1).toArray, .int .i64 r.2]
/-- A block's name, or its errno. -/
@[irreducible] def nameB (d : BlkD) : Key × Int := if (blkV d).2 = 0 then (doubleK (blkV d).1, 0) else (zeroKey, (blkV d).2)
theorem nameB_ok {d : BlkD} {s : List UInt8} (h : blkV d = (s, 0)) : nameB d = (doubleK s, 0) := by unfold nameB; rw [h]; rfl
theorem nameB_err {d : BlkD} {s : List UInt8} {x : Int} (h : blkV d = (s, x)) (hx : ¬ x = 0) : nameB d = (zeroKey, x) := by unfold nameB; rw [h]; exact if_neg hx
theorem blkV_few {d : BlkD} (h : d.txs.length ≤ 40) : (blkV d).1.length ≤ 1000000 := by
  rcases blkV_cases d with ⟨h1, _⟩ | ⟨_, h2⟩
  · rw [h1]; exact Nat.zero_le _
  · have := sizesN_few d.txs
    omega

set_option maxHeartbeats 2000000 in
theorem bid_any (t : BlkV) (qs : List (TxV × TxD)) (d : BlkD) (W : World) (h : BlkL W t qs d) (hk : okB d) : Calls Try.prog 36 #[.agg (blkC t).toArray] W (Gives (valNm (nameB d)) W) := by
  have hB0 : Below W.heap.size W (W.alloc (.cells (blkC t).toArray 50)) := (Below.refl _ _).alloc (Nat.le_refl _) _
  have hB1 : Below W.heap.size W ((W.alloc (.cells (blkC t).toArray 50)).alloc (.cells (keyC zeroKey).toArray 38)) := hB0.alloc (by simp) _
  have hr0 : rowOf ((W.alloc (.cells (blkC t).toArray 50)).alloc (.cells (keyC zeroKey).toArray 38)) W.heap.size 0 66 = some (blkC t) := by
    rw [rowOf_alloc_old _ _ _ _ _ (by simp)]; exact (blk_all (heap_alloc_new W _)).2.1
  have hk0 : ((W.alloc (.cells (blkC t).toArray 50)).alloc (.cells (keyC zeroKey).toArray 38)).heap[W.heap.size + 1]? = some (.cells (keyC zeroKey).toArray 38 (0, 0)) := heap_alloc_new' _ _ _ (by simp)
  have hs0 : ((W.alloc (.cells (blkC t).toArray 50)).alloc (.cells (keyC zeroKey).toArray 38)).heap.size = W.heap.size + 1 + 1 := by simp
  have hE := bencode_any t qs d _ (h.below hB1) hk
  replace h := Box.mk h
  go_enter Try.func36, Try.ntmps36
  go_wp2_with fail
  generalize (W.alloc (.cells (blkC t).toArray 50)).alloc (.cells (keyC zeroKey).toArray 38) = w0 at *
  refine hE.mono ?_
  rintro e w1 ⟨rfl, hb1⟩
  have hk1 := keepBlock hb1 hk0
  have B1 := hB1.trans (hb1.mono (by omega))
  have hcp : canPut w1 (W.heap.size + 1) 0 32 = true := canPut_block hk1 0 32 (by simp [keyC_length])
  have l1 : W.heap.size + 1 < w1.heap.size := by have := hb1.size; omega
  clear hr0 hE
  unfold valE
  have fin : ∀ (w : World) (k : Key), Below W.heap.size W w → Below W.heap.size W (w.setCells (W.heap.size + 1) 0 (keyC k)) := fun w k hb => below_setCells (Nat.le_succ _) _ _ _ _ hb
  have row : ∀ (w : World) (k : Key), w.heap[W.heap.size + 1]? = some (.cells (keyC zeroKey).toArray 38 (0, 0)) → rowOf (w.setCells (W.heap.size + 1) 0 (keyC k)) (W.heap.size + 1) 0 32 = some (keyC k) := fun w k hk =>
    rowOf_of_rangeAt (World.rangeAt_setCells_same w (W.heap.size + 1) 0 (keyC k) (by rw [keyC_length]; exact canPut_there.1 (canPut_block hk 0 32 (by simp [keyC_length])))) (keyC_length k)
  replace fin := Box.mk fin
  replace row := Box.mk row
  replace hk1 := Box.mk hk1
  replace hk0 := Box.mk hk0
  replace hs0 := Box.mk hs0
  obtain ⟨s, x, hE⟩ : ∃ s x, blkV d = (s, x) := ⟨_, _, rfl⟩
  by_cases hx : x = 0
  · subst hx
    have hN := nameB_ok hE
    have hl := blkV_few hk.1
    rw [hE] at hl ⊢
    replace hl : s.length ≤ 1000000 := hl
    replace hE := Box.mk hE
    replace hl := Box.mk hl
    replace hk := Box.mk hk
    go_wp2_with fail
    refine (double_any s w1 hl.out).mono ?_
    rintro e w2 ⟨rfl, hb2⟩
    have hk2 := keepBlock hb2 hk1.out
    have hcp2 : canPut w2 (W.heap.size + 1) 0 32 = true := canPut_block hk2 0 32 (by simp [keyC_length])
    have l2 : W.heap.size + 1 < w2.heap.size := by have := hb2.size; omega
    have B2 := B1.trans (hb2.mono (by omega))
    generalize doubleK s = k at *
    replace hk2 := Box.mk hk2
    replace hN := Box.mk hN
    clear hcp l1
    go_wp2
    refine bodyPost_ret (v := valNm (k, 0)) (res2 Try.results36 (res_key (b := W.heap.size + 1) (o := 0) (by simp [go_sem]) (row.out _ k hk2.out)) (v2 := .int .i64 0) (by simp [oneRes]; try rfl)) rfl ?_
    exact gives (by rw [hN.out]) (fin.out _ _ B2)
  · have hN := nameB_err hE hx
    have hx2 : (x != 0) = true := by simpa using hx
    rw [hE]
    replace hE := Box.mk hE
    replace hk := Box.mk hk
    go_wp2
    refine bodyPost_ret (v := valNm (zeroKey, x)) (res2 Try.results36 (res_key (b := W.heap.size + 1) (o := 0) (by simp [go_sem]) (row.out _ zeroKey hk1.out)) (v2 := .int .i64 x) (by simp [oneRes]; try rfl)) rfl ?_
    exact gives (by rw [hN]) (fin.out _ _ B1)

end Go.Proofs.Ytahkiabpjfcfdaa
