/- The laws of layer 6: their bound, and the case that they show. -/
import Derived.Test.YtahkiabpjfcfdaaBlkEnc
namespace Go.Proofs.Ytahkiabpjfcfdaa
open Go.RowKit
set_option linter.unusedVariables false
set_option linter.unusedSimpArgs false
set_option maxRecDepth 100000
attribute [local irreducible] Int.lt Int.le
attribute [local go_sem ↓] load_key store_key alloc_key build0_key eq_key load_tx store_tx alloc_tx load_blk store_blk alloc_blk build0_blk
attribute [local go_sem] rowOf_drew rowOf_alloc_old rowOf_alloc_new canPut_drew canPut_alloc_old canPut_alloc_new setCells_alloc_new

def hvT (t : TxD) : Bool := decide ((60 : Int) < t.ins.length) || decide ((60 : Int) < t.outs.length) || decide ((60 : Int) < t.nulls.length) || decide ((60 : Int) < t.notes.length)
@[irreducible] def hvB (d : BlkD) : Bool := decide ((40 : Int) < d.txs.length) || d.txs.any hvT
theorem hvT_ok {t : TxD} (h : hvT t = false) : okT t := by
  unfold hvT at h
  simp only [Bool.or_eq_false_iff, decide_eq_false_iff_not] at h
  unfold okT; omega
theorem hvB_ok {d : BlkD} (h : hvB d = false) : okB d := by
  unfold hvB at h
  rw [Bool.or_eq_false_iff, decide_eq_false_iff_not, List.any_eq_false] at h
  exact ⟨by have := h.1; omega, fun t ht => hvT_ok (by have := h.2 t ht; simpa using this)⟩

set_option maxHeartbeats 1000000 in
theorem heavy06_any (v : BlkV) (qs : List (TxV × TxD)) (d : BlkD) (W : World) (h : BlkL W v qs d) : Calls Try.prog 25 #[.agg (blkC v).toArray] W (Gives (.bool (hvB d)) W) := by
  have hB0 : Below W.heap.size W (W.alloc (.cells (blkC v).toArray 50)) := (Below.refl _ _).alloc (Nat.le_refl _) _
  have hH0 := heap_alloc_new W (.cells (blkC v).toArray 50)
  have hvl := h.vlen
  have hqd : qs.length = d.txs.length := by have := congrArg List.length h.cont; rw [List.length_map] at this; exact this.symm
  have hcap := h.txs.2.1
  have hmax : (v.txs.len : Int) ≤ 9223372036854775807 := by have := Nat.le_trans h.txs.2.1 h.txs.2.2.1; unfold maxLen at this; omega
  obtain ⟨k0, _, _, _, _, k5⟩ := blk_all hH0
  rw [hvl] at k5 hmax hcap
  replace hH0 := Box.mk hH0
  replace h := Box.mk h
  by_cases hm : (40 : Int) < d.txs.length
  · have hE : hvB d = true := by unfold hvB; simp [hm]
    rw [hE]
    replace hE := Box.mk hE
    go_enter Try.func25, Try.ntmps25
    go_wp2_with fail
    go_ret
    exact gives_bool rfl hB0
  · have hE : hvB d = d.txs.any hvT := by unfold hvB; simp [hm]
    rw [hE]
    replace hE := Box.mk hE
    go_enter Try.func25, Try.ntmps25
    go_wp2_with fail
    go_loopw [3] (fun i wr => Below W.heap.size W wr ∧ wr.heap[W.heap.size]? = some (.cells (blkC v).toArray 50 (0, 0)) ∧ ∃ j : Nat, j ≤ d.txs.length ∧ i = .int .i64 j ∧ (d.txs.take j).any hvT = false) (fun i _ => d.txs.length - (intOf i).toNat)
    case atStart => exact ⟨hB0, hH0.out, 0, Nat.zero_le _, rfl, by simp⟩
    case round =>
      clear k5 k0
      obtain ⟨hbr, hHr, j, hj, rfl, hany⟩ := hrel
      obtain ⟨k0, _, _, _, _, k5⟩ := blk_all hHr
      rw [hvl] at k5
      have hsz := hbr.size
      by_cases hlt : j < d.txs.length
      · have hlt' : (j : Int) < (d.txs.length : Int) := by omega
        obtain ⟨q, hq⟩ : ∃ q, qs[j]? = some q := ⟨_, List.getElem?_eq_getElem (by omega)⟩
        have hdq : d.txs[j]? = some q.2 := by rw [h.out.cont, List.getElem?_map, hq]; rfl
        have hT := (h.out.each q (List.mem_of_getElem? hq))
        obtain ⟨b, o, hae, hb, hr⟩ := SL.elem (fun q => txC_length q.1) h.out.txs hq
        have R1 : rowOf wr b (o + j * 38) 38 = some (txC q.1) := by rw [rowOf_congr (hbr.block b hb)]; exact hr
        have s1 : b < wr.heap.size := by omega
        have htk : (d.txs.take (j + 1)).any hvT = hvT q.2 := by rw [List.take_add_one, hdq, List.any_append, hany]; simp
        have hall : hvT q.2 = true → d.txs.any hvT = true := fun hh => List.any_eq_true.2 ⟨q.2, List.mem_of_getElem? hdq, hh⟩
        have hNN := heap_alloc_new wr (.cells (txC q.1).toArray 41)
        have hbn : Below W.heap.size W (wr.alloc (.cells (txC q.1).toArray 41)) := hbr.alloc (by omega) _
        have hHn := keepBlock ((Below.refl wr.heap.size wr).alloc (Nat.le_refl _) (.cells (txC q.1).toArray 41)) hHr
        obtain ⟨t0, t1, t2, t3, t4, t5, t6, t7⟩ := tx_all hNN
        clear t1 t4 t7
        have l1 := hT.ins.1
        have l2 := hT.outs.1
        have l3 := hT.nulls.1
        have l4 := hT.notes.1
        rw [l1] at t2; rw [l2] at t3; rw [l3] at t5; rw [l4] at t6
        rw [hae] at k5
        clear l1 l2 l3 l4
        replace hNN := Box.mk hNN
        replace hT := Box.mk hT
        replace hq := Box.mk hq
        replace hdq := Box.mk hdq
        replace hr := Box.mk hr
        replace htk := Box.mk htk
        replace hall := Box.mk hall
        replace hHr := Box.mk hHr
        replace hHn := Box.mk hHn
        replace hae := Box.mk hae
        go_wp2_with fail
        all_goals first
          | (go_ret; exact gives_bool (by rw [hall.out (by simp [hvT]; omega)]) hbn)
          | exact ⟨⟨hbn, hHn.out, j + 1, by omega, by go_num, by rw [htk.out]; simp [hvT]; omega⟩, by simp [intOf]; omega⟩
      · obtain rfl : j = d.txs.length := by omega
        have hfin : d.txs.any hvT = false := by rw [← hany, List.take_of_length_le (Nat.le_refl _)]
        replace hfin := Box.mk hfin
        go_wp2_with fail
        go_ret
        exact gives_bool (by rw [hfin.out]) hbr

/-! ### What is shown -/
def zeroT : TxD := ⟨0, [], [], zeroKey, [], [], 0⟩
def showB : BlkD := ⟨zeroKey, zeroKey, 7, [zeroT]⟩
theorem show_ok : okB showB := by
  refine ⟨by decide, fun t ht => ?_⟩
  have : t = zeroT := by simpa [showB] using ht
  subst this
  exact ⟨by decide, by decide, by decide, by decide⟩
theorem zeroT_L (W : World) : TxL W zeroTx zeroT :=
  ⟨SL.nil _ _ _, SL.nil _ _ _, SL.nil _ _ _, SL.nil _ _ _, fun p hp => (List.not_mem_nil hp).elim, fun p hp => (List.not_mem_nil hp).elim, ⟨rfl, by decide, by decide⟩, rfl, ⟨rfl, by decide, by decide⟩⟩
theorem show_V : blkV showB = (List.replicate 64 0 ++ ([7, 0, 0, 0, 1] ++ encB zeroT), 0) := by
  unfold blkV blkR blkHead
  have he : encV zeroT = (encB zeroT, 0) := by kernel_rfl
  have h1 : encTxs showB.txs = .ok (encB zeroT) := by
    show encTxs [zeroT] = _
    rw [encTxs, he]
    simp [encTxs]
  rw [h1, if_neg (by decide), if_neg (by decide)]
  have h2 : showB.prev.val ++ showB.root.val ++ le 4 showB.nonce.toNat ++ compactL showB.txs.length = List.replicate 64 0 ++ [7, 0, 0, 0, 1] := by kernel_rfl
  rw [h2]
  exact congrArg (fun l => (l, (0 : Int))) (List.append_assoc _ _ _)
attribute [local go_sem ↓] one_tx build_blk23 build0_tx
theorem show_L (W : World) : BlkL (W.alloc (.cells (txC zeroTx).toArray 41)) ⟨zeroKey, zeroKey, 7, ⟨some ⟨W.heap.size, 0, none⟩, 1, 1⟩⟩ [(zeroTx, zeroT)] showB :=
  ⟨SL.one (f := fun q : TxV × TxD => txC q.1) (fun q => txC_length q.1) (zeroTx, zeroT) 41 W, fun q hq => by rw [List.mem_singleton.1 hq]; exact zeroT_L _, rfl, rfl, rfl, ⟨rfl, by decide, by decide⟩⟩
set_option maxHeartbeats 1000000 in
theorem shown06_any (W : World) : Calls Try.prog 26 #[] W (Gives (.bool true) W) := by
  have hB : Below W.heap.size W (W.alloc (.cells (txC zeroTx).toArray 41)) := (Below.refl _ _).alloc (Nat.le_refl _) _
  have hc := bencode_any _ _ _ _ (show_L W) show_ok
  obtain ⟨L, hL, hl, h64⟩ : ∃ L, blkV showB = (L, 0) ∧ L.length = 85 ∧ ∀ h : 64 < (sB L).size, ((sB L)[64]'h).toNat = 7 := ⟨_, show_V, by kernel_rfl, fun h => rfl⟩
  rw [hL] at hc
  replace hL := Box.mk hL
  replace hc := Box.mk hc
  go_enter Try.func26, Try.ntmps26
  go_wp2_with fail
  refine hc.out.mono ?_
  rintro e w1 ⟨rfl, hb1⟩
  unfold valE
  go_wp2
  go_ret
  exact gives_bool rfl (hB.trans (hb1.mono hB.size))
end Go.Proofs.Ytahkiabpjfcfdaa
