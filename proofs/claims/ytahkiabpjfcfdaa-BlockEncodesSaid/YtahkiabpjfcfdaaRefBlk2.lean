/- Layer 6: the document's Notes, Sigs and Size. (printed by mkrefblk2.py) -/
import Derived.Test.YtahkiabpjfcfdaaRefBlk
import Derived.Test.YtahkiabpjfcfdaaBlkSigs
namespace Go.Proofs.Ytahkiabpjfcfdaa
open Go.RowKit
set_option linter.unusedVariables false
set_option linter.unusedSimpArgs false
set_option maxRecDepth 100000
attribute [local irreducible] Int.lt Int.le
attribute [local go_sem ↓] load_key store_key alloc_key build0_key eq_key load_point store_point alloc_point load_out store_out alloc_out load_tx store_tx alloc_tx build0_tx load_blk store_blk alloc_blk append_key
attribute [local go_sem] rowOf_drew rowOf_alloc_old rowOf_alloc_new canPut_drew canPut_alloc_old canPut_alloc_new setCells_alloc_new

set_option maxHeartbeats 1000000 in
theorem refCoinbase_any (t : TxV) (ins : List PointV) (W : World) (h : SL pointC 33 W t.ins.a t.ins.len t.ins.cap ins) : Calls Try.prog 71 #[.agg (txC t).toArray] W (Gives (.bool (cbB ins)) W) := by
  have hB0 : Below W.heap.size W (W.alloc (.cells (txC t).toArray 41)) := (Below.refl _ _).alloc (Nat.le_refl _) _
  have hl := h.1
  have hcap := h.2.1
  match ins, hl with
  | [], hl =>
    replace hl : t.ins.len = 0 := hl
    replace h := Box.mk h
    go_enter Try.func71, Try.ntmps71
    go_wp2
    go_ret
    exact gives_bool rfl hB0
  | [p], hl =>
    replace hl : t.ins.len = 1 := hl
    obtain ⟨b, o, ha, hb, hr⟩ := SL.elem pointC_length h (i := 0) (x := p) rfl
    rw [Nat.zero_mul, Nat.add_zero] at hr
    obtain ⟨c1, c2⟩ := pt_row hr
    replace h := Box.mk h
    replace hr := Box.mk hr
    replace c2 := Box.mk c2
    go_enter Try.func71, Try.ntmps71
    go_wp2
    go_ret
    exact gives_bool rfl hB0
  | p :: q :: r, hl =>
    have hl' : ¬ ((t.ins.len : Int) = 1) := by rw [hl]; simp; omega
    replace h := Box.mk h
    replace hl := Box.mk hl
    go_enter Try.func71, Try.ntmps71
    go_wp2
    go_ret
    exact gives_bool rfl hB0

theorem rsize6_any (t : TxV) (d : TxD) (W : World) (h : TxL W t d) : Calls Try.prog 24 #[.agg (txC t).toArray] W (Gives (.int .i64 ((encV d).1.length : Nat)) W) := by
  have hB0 : Below W.heap.size W (W.alloc (.cells (txC t).toArray 41)) := (Below.refl _ _).alloc (Nat.le_refl _) _
  have hr0 : rowOf (W.alloc (.cells (txC t).toArray 41)) W.heap.size 0 38 = some (txC t) := tx_row38 (heap_alloc_new W _)
  go_enter Try.func24, Try.ntmps24
  go_wp2_with fail
  refine (refEncode_any t d _ (h.below hB0)).mono ?_
  rintro e w1 ⟨rfl, hb⟩
  unfold valE
  go_wp2
  go_ret
  exact gives (by try simp) (hB0.trans (hb.mono hB0.size))

set_option maxHeartbeats 300000 in
theorem rsigs6_any (v : BlkV) (qs : List (TxV × TxD)) (d : BlkD) (W : World) (h : BlkL W v qs d) (hk : okB d) : Calls Try.prog 39 #[.agg (blkC v).toArray] W (Gives (.int .i64 (sigsN d.txs : Nat)) W) := by
  have hB0 : Below W.heap.size W (W.alloc (.cells (blkC v).toArray 50)) := (Below.refl _ _).alloc (Nat.le_refl _) _
  have hH0 := heap_alloc_new W (.cells (blkC v).toArray 50)
  have hvl := h.vlen
  have hqd : qs.length = d.txs.length := by have := congrArg List.length h.cont; rw [List.length_map] at this; exact this.symm
  have hcap := h.txs.2.1
  have h40 := hk.1
  rw [hvl] at hcap
  have hs0 : (W.alloc (.cells (blkC v).toArray 50)).heap.size = W.heap.size + 1 := by simp
  replace h := Box.mk h
  replace hk := Box.mk hk
  replace hH0 := Box.mk hH0
  replace hs0 := Box.mk hs0
  go_enter Try.func39, Try.ntmps39
  go_wp2_with fail
  go_loopw [3, 4] (fun sv x wr => Below W.heap.size W wr ∧ wr.heap[W.heap.size]? = some (.cells (blkC v).toArray 50 (0, 0)) ∧ ∃ j : Nat, j ≤ d.txs.length ∧ x = .int .i64 j ∧ sv = .int .i64 (sigsN (d.txs.take j) : Nat) ∧ sigsN (d.txs.take j) ≤ 60 * j) (fun _ x _ => d.txs.length - (intOf x).toNat)
  case atStart => exact ⟨hB0, hH0.out, 0, Nat.zero_le _, rfl, by simp [sigsN], by simp [sigsN]⟩
  case round =>
    obtain ⟨hbr, hHr, j, hj, rfl, rfl, hfew⟩ := hrel
    obtain ⟨k0, k1, k2, k3, k4, k5⟩ := blk_all hHr
    rw [hvl] at k5
    clear k1 k2 k3 k4
    have hlr := hbr.size
    by_cases hlt : j < d.txs.length
    · have hlt' : (j : Int) < (d.txs.length : Int) := by omega
      obtain ⟨q, hq⟩ : ∃ q, qs[j]? = some q := ⟨_, List.getElem?_eq_getElem (by omega)⟩
      have hdq : d.txs[j]? = some q.2 := by rw [h.out.cont, List.getElem?_map, hq]; rfl
      have hT0 := h.out.each q (List.mem_of_getElem? hq)
      have hok := hk.out.2 q.2 (List.mem_of_getElem? hdq)
      obtain ⟨b, o, hae, hb, hr⟩ := SL.elem (fun q => txC_length q.1) h.out.txs hq
      have R1 : rowOf wr b (o + j * 38) 38 = some (txC q.1) := by rw [rowOf_congr (hbr.block b hb)]; exact hr
      have s1 : b < wr.heap.size := by omega
      rw [hae] at k5
      have hT := hT0.below hbr
      have c1 : wr.cell? ⟨b, o + j * 38 + 1, none⟩ = some (.slice q.1.ins.a q.1.ins.len q.1.ins.cap) := (rowOf_some.1 R1).2 1 _ (txC_1 q.1)
      have hil := hT.ins.1
      have hnext : sigsN (d.txs.take (j + 1)) = sigsN (d.txs.take j) + (if cbB q.2.ins = true then 0 else q.2.ins.length) := by rw [List.take_add_one, hdq]; exact (sigsN_append _ _).trans (by rw [show (some q.2).toList = [q.2] from rfl, sigsN_one])
      have hi60 := hok.1
      have hcall := refCoinbase_any q.1 q.2.ins wr hT.ins
      obtain ⟨A, hA⟩ : ∃ A, sigsN (d.txs.take j) = A := ⟨_, rfl⟩
      rw [hA] at hnext hfew ⊢
      replace hA := Box.mk hA
      replace hT := Box.mk hT
      replace hT0 := Box.mk hT0
      replace hq := Box.mk hq
      replace hdq := Box.mk hdq
      replace hr := Box.mk hr
      replace hHr := Box.mk hHr
      replace hae := Box.mk hae
      replace hcall := Box.mk hcall
      replace hok := Box.mk hok
      rw [hil] at c1
      replace hil := Box.mk hil
      cases hcb : cbB q.2.ins
      · rw [hcb] at hnext hcall
        rw [if_neg (by simp)] at hnext
        replace hcb := Box.mk hcb
        obtain ⟨C, hC⟩ : ∃ C, q.2.ins.length = C := ⟨_, rfl⟩
        rw [hC] at hnext hi60 c1
        replace hC := Box.mk hC
        have hwr : wrap64 ((A : Int) + (C : Int)) = ((A + C : Nat) : Int) := by rw [IntWalk.wrap64_in _ ⟨by omega, by omega⟩]; omega
        replace hnext := Box.mk hnext
        go_wp2_with fail
        refine hcall.out.mono ?_
        rintro e w5 ⟨rfl, hb5⟩
        have hS5 := Box.mk (since_next hbr hb5)
        have hH5 := Box.mk (keepBlock hb5 hHr.out)
        have l5 := hb5.size
        have q5 : w5.cell? ⟨W.heap.size, 65, none⟩ = some (.slice (some ⟨b, o, none⟩) d.txs.length v.txs.cap) := (hb5.cell (p := ⟨W.heap.size, 65, none⟩) k0).trans k5
        have c5 : w5.cell? ⟨b, o + j * 38 + 1, none⟩ = some (.slice q.1.ins.a C q.1.ins.cap) := (hb5.cell (p := ⟨b, o + j * 38 + 1, none⟩) s1).trans c1
        have n5 : W.heap.size < w5.heap.size := by omega
        have m5 : b < w5.heap.size := by omega
        clear R1 c1 k5
        replace hwr := Box.mk hwr
        go_wp2
        go_roundw
        case rel => exact ⟨hS5.out, hH5.out, j + 1, by omega, by go_num, by rw [hnext.out]; go_num, by have := hnext.out; omega⟩
        case measure => simp [intOf]; omega
      · rw [hcb] at hnext hcall
        rw [if_pos rfl, Nat.add_zero] at hnext
        replace hcb := Box.mk hcb
        replace hnext := Box.mk hnext
        go_wp2_with fail
        refine hcall.out.mono ?_
        rintro e w5 ⟨rfl, hb5⟩
        have hS5 := Box.mk (since_next hbr hb5)
        have hH5 := Box.mk (keepBlock hb5 hHr.out)
        clear R1 c1 k5
        go_wp2
        go_roundw
        case rel => exact ⟨hS5.out, hH5.out, j + 1, by omega, by go_num, by rw [hnext.out]; rfl, by have := hnext.out; omega⟩
        case measure => simp [intOf]; omega
    · obtain rfl : j = d.txs.length := by omega
      rw [List.take_length]
      go_wp2_with fail
      go_ret
      exact gives rfl hbr

set_option maxHeartbeats 300000 in
theorem rnotes6_any (v : BlkV) (qs : List (TxV × TxD)) (d : BlkD) (W : World) (h : BlkL W v qs d) (hk : okB d) : Calls Try.prog 38 #[.agg (blkC v).toArray] W fun e W' => (∃ a len cap, e = .returned (.slice a len cap) ∧ SL keyC 32 W' a len cap (notesL d.txs)) ∧ Below W.heap.size W W' := by
  have hB0 : Below W.heap.size W (W.alloc (.cells (blkC v).toArray 50)) := (Below.refl _ _).alloc (Nat.le_refl _) _
  have hH0 := heap_alloc_new W (.cells (blkC v).toArray 50)
  have hvl := h.vlen
  have hqd : qs.length = d.txs.length := by have := congrArg List.length h.cont; rw [List.length_map] at this; exact this.symm
  have hcap := h.txs.2.1
  have h40 := hk.1
  rw [hvl] at hcap
  have hs0 : (W.alloc (.cells (blkC v).toArray 50)).heap.size = W.heap.size + 1 := by simp
  replace h := Box.mk h
  replace hk := Box.mk hk
  replace hH0 := Box.mk hH0
  replace hs0 := Box.mk hs0
  go_enter Try.func38, Try.ntmps38
  go_wp2_with fail
  go_loopw [3, 4] (fun sv x wr => Below W.heap.size W wr ∧ wr.heap[W.heap.size]? = some (.cells (blkC v).toArray 50 (0, 0)) ∧ ∃ (j : Nat) (u : Option Addr) (n c : Nat), j ≤ d.txs.length ∧ x = .int .i64 j ∧ sv = .slice u n c ∧ KOwn wr (W.heap.size + 1) (.slice u n c) (notesL (d.txs.take j)) ∧ (notesL (d.txs.take j)).length ≤ 60 * j) (fun _ x _ => d.txs.length - (intOf x).toNat)
  case atStart => exact ⟨hB0.alloc (by rw [hs0.out]; omega) _, keepBlock ((Below.refl _ _).alloc (Nat.le_refl _) _) hH0.out, 0, _, _, _, Nat.zero_le _, rfl, rfl, Own.empty keyC 32 38 _ (W.heap.size + 1) _ (by rw [hs0.out]) (Nat.le_refl _), by simp [notesL]⟩
  case round =>
    obtain ⟨hbr, hHr, j, u, n, c, hj, rfl, rfl, hown, hfew⟩ := hrel
    obtain ⟨k0, k1, k2, k3, k4, k5⟩ := blk_all hHr
    rw [hvl] at k5
    clear k1 k2 k3 k4
    have hlr := hbr.size
    by_cases hlt : j < d.txs.length
    · have hlt' : (j : Int) < (d.txs.length : Int) := by omega
      obtain ⟨q, hq⟩ : ∃ q, qs[j]? = some q := ⟨_, List.getElem?_eq_getElem (by omega)⟩
      have hdq : d.txs[j]? = some q.2 := by rw [h.out.cont, List.getElem?_map, hq]; rfl
      have hT0 := h.out.each q (List.mem_of_getElem? hq)
      have hok := hk.out.2 q.2 (List.mem_of_getElem? hdq)
      obtain ⟨b, o, hae, hb, hr⟩ := SL.elem (fun q => txC_length q.1) h.out.txs hq
      have R1 : rowOf wr b (o + j * 38) 38 = some (txC q.1) := by rw [rowOf_congr (hbr.block b hb)]; exact hr
      have s1 : b < wr.heap.size := by omega
      rw [hae] at k5
      have hT := hT0.below hbr
      have c1 : wr.cell? ⟨b, o + j * 38 + 36, none⟩ = some (.slice q.1.notes.a q.1.notes.len q.1.notes.cap) := (rowOf_some.1 R1).2 36 _ (txC_36 q.1)
      have hnext : notesL (d.txs.take (j + 1)) = notesL (d.txs.take j) ++ q.2.notes := by rw [List.take_add_one, hdq]; exact notesL_snoc _ _
      have hi60 := hok.2.2.2
      obtain ⟨u', m', c', w', hap, hown', hb', hko, hm'⟩ := app_kk (ty := 39) hown (by omega) _ _ _ _ hT.notes (by omega)
      have hbW := Box.mk (hbr.trans (hb'.mono (by omega)))
      have hHW := Box.mk ((hb'.block W.heap.size (by omega)).trans hHr)
      have hfew2 : (notesL (d.txs.take (j + 1))).length ≤ 60 * (j + 1) := by rw [hnext, List.length_append]; omega
      rw [← hnext] at hown'
      replace hown' := Box.mk hown'
      replace hown := Box.mk hown
      replace hT := Box.mk hT
      replace hT0 := Box.mk hT0
      replace hq := Box.mk hq
      replace hdq := Box.mk hdq
      replace hr := Box.mk hr
      replace hHr := Box.mk hHr
      replace hae := Box.mk hae
      replace hok := Box.mk hok
      replace hm' := Box.mk hm'
      replace hko := Box.mk hko
      replace hb' := Box.mk hb'
      go_wp2
      go_roundw
      case rel => exact ⟨hbW.out, hHW.out, j + 1, _, _, _, by omega, by go_num, rfl, hown'.out, hfew2⟩
      case measure => simp [intOf]; omega
    · obtain rfl : j = d.txs.length := by omega
      rw [List.take_length] at hown
      replace hown := Box.mk hown
      go_wp2_with fail
      go_ret
      exact ⟨⟨_, _, _, rfl, hown.out.sl'.2⟩, hbr⟩

end Go.Proofs.Ytahkiabpjfcfdaa
