/- Package block: each transaction, an iterator. -/
import Derived.RangeFuncNested
import Derived.RangeFuncBound
import Derived.RangeFuncCalls
import Derived.RangeFuncLeaves
import Derived.RangeFuncBox
import Derived.Shelf.Abstract
import Derived.Shelf.RegionOpen
import Derived.WalkKit
import Derived.OwnWalkIn
import Derived.TacticsInMore
import Derived.LoopNIn
import Derived.LoopIn
import Derived.Test.YtahkiabpjfcfdaaBlk
namespace Go.Proofs.Ytahkiabpjfcfdaa
open Go.RowKit Go.Shelf
set_option linter.unusedVariables false
set_option linter.unusedSimpArgs false
set_option maxRecDepth 100000
attribute [local go_sem] Oper.semAt_some
/-- In a fenced walk too the rules of rows are met before an operation is written out. -/
theorem semAt_run (ro : Option Nat) (ρ : Operand → Value) (o : Oper) (P : Program) (w : World) (h : ∀ c, o.op ≠ .defer c) : (Oper.semAt ro ρ o).run P w = (execOp ρ o).run P w := by rw [Oper.semAt_eq _ _ _ h]
attribute [local go_sem ↓] semAt_run
attribute [local irreducible] Int.lt Int.le
attribute [local go_sem ↓] load_key store_key alloc_key build0_key eq_key load_point store_point alloc_point load_out store_out alloc_out load_tx store_tx alloc_tx load_blk store_blk alloc_blk build0_blk
attribute [local go_sem] rowOf_drew rowOf_alloc_old rowOf_alloc_new canPut_drew canPut_alloc_old canPut_alloc_new setCells_alloc_new

set_option maxHeartbeats 2000000 in
theorem each1_in (n : Nat) (hn : 1 ≤ n) (l Bs : Nat) (w0 : World) (v : BlkV) (qs : List (TxV × TxD)) (hS : SL (fun q : TxV × TxD => txC q.1) 38 w0 v.txs.a v.txs.len v.txs.cap qs) (hE : ∀ q ∈ qs, TxL w0 q.1 q.2 ∧ okT q.2) (J Jx : List (TQ w0) → World → Prop) (B : Nat) (hJ : AbidesFrom B J)
    (hY : ∀ (pre : List (TQ w0)) (x : TQ w0) W, J pre W → pre.length < qs.length → YieldAt Fence.wide (n - 1) Try.prog l #[.agg (txC x.1.1).toArray] W fun e W' =>
      (e = .returned (.bool true) ∧ J (pre ++ [x]) W' ∧ Below w0.heap.size W W') ∨ (e = .returned (.bool false) ∧ Jx (pre ++ [x]) W'))
    (W : World) (hW : Below w0.heap.size w0 W) (hBs : W.heap[Bs]? = some (.cells (blkC v).toArray 50 (0, 0))) (h0 : J [] W) :
    CallsIn Fence.wide n Try.prog 81 #[.func (.yield l) #[] #[], .pointer (some ⟨Bs, 0, none⟩)] W fun e W' => (∃ v, e = .returned v) ∧
      ((∃ ys, ys = tqs qs hE ∧ J ys W') ∨ (∃ pre, pre <+: tqs qs hE ∧ Jx pre W')) := by
  have hlen : v.txs.len = qs.length := hS.1
  have hmax : (v.txs.len : Int) ≤ 9223372036854775807 := by have := Nat.le_trans hS.2.1 hS.2.2.1; unfold maxLen at this; omega
  obtain ⟨k0, k1, k2, k3, k4, k5⟩ := blk_all hBs
  clear k1 k2 k3 k4
  have hcap := hS.2.1
  replace hS := Box.mk hS
  replace hY := Box.mk hY
  replace hW := Box.mk hW
  replace hJ := Box.mk hJ
  replace hBs := Box.mk hBs
  refine callsIn_of_wp Try.func81 rfl trivial ?_ rfl
  simp only [Try.ntmps81, List.size_toArray, List.length_cons, List.length_nil, Nat.reduceAdd, Nat.reduceSub, Array.replicate_succ, Array.replicate_zero, List.push_toArray, List.append_toArray, List.nil_append, List.cons_append]
  gi_wp2
  gi_loopw [8] (fun x wr => ∃ (k : Nat) (pre : List (TQ w0)), k ≤ v.txs.len ∧ x = .int .i64 k ∧ pre = (tqs qs hE).take k ∧ J pre wr ∧ Below w0.heap.size W wr) (fun x _ => v.txs.len - (intOf x).toNat)
  case atStart => exact ⟨0, [], Nat.zero_le _, rfl, by simp, h0, Below.refl _ _⟩
  case round =>
    clear h0 k0 k5
    obtain ⟨k, pre, hk, rfl, hpre, hj, hbr⟩ := hrel
    by_cases hlt : k < v.txs.len
    · have hlt' : (k : Int) < (v.txs.len : Int) := by omega
      obtain ⟨z, hz⟩ : ∃ z, (tqs qs hE)[k]? = some z := ⟨_, List.getElem?_eq_getElem (by rw [tqs_length]; omega)⟩
      have hz2 := tqs_get hE hz
      obtain ⟨b, o, hae, hb, hr⟩ := SL.elem (fun q => txC_length q.1) hS.out hz2
      have hbb := (hW.out.trans hbr)
      have R1 : rowOf wr b (o + k * 38) 38 = some (txC z.1.1) := by rw [rowOf_congr (hbb.block b hb)]; exact hr
      have hbs : b < wr.heap.size := Nat.lt_of_lt_of_le hb hbb.size
      have hJ2 : J pre (wr.alloc (.cells (txC z.1.1).toArray 41)) := hJ.out _ _ _ none hj (World.grownBy_alloc _ _ none) (fun r e => by cases e)
      have hB2 : Below w0.heap.size W (wr.alloc (.cells (txC z.1.1).toArray 41)) := hbr.alloc hbb.size _
      have hpl : pre.length < qs.length := by rw [hpre, List.length_take, tqs_length]; omega
      have hpre2 : pre ++ [z] = (tqs qs hE).take (k + 1) := by rw [List.take_add_one, hz, hpre]; rfl
      obtain ⟨fn, tmps, assign, body, hy, hR⟩ := hY.out pre z (wr.alloc (.cells (txC z.1.1).toArray 41)) hJ2 hpl
      have rn : rowOf (wr.alloc (.cells (txC z.1.1).toArray 41)) wr.heap.size 0 38 = some (txC z.1.1) := rowOf_alloc_new _ _ _ _ _ _ rfl (txC_length _)
      rw [hae]
      replace hae := Box.mk hae
      replace hz := Box.mk hz
      replace hz2 := Box.mk hz2
      replace hr := Box.mk hr
      replace hpre := Box.mk hpre
      replace hpre2 := Box.mk hpre2
      replace hj := Box.mk hj
      replace hJ2 := Box.mk hJ2
      replace hbr := Box.mk hbr
      replace hbb := Box.mk hbb
      replace hB2 := Box.mk hB2
      gi_wp2
      refine hR.mono ?_
      rintro e W3 (⟨rfl, hJ3, hk3⟩ | ⟨rfl, hJx3⟩)
      · gi_wp2
        go_roundw
        case rel => exact ⟨k + 1, _, by omega, by go_num, hpre2.out, hJ3, hB2.out.trans hk3⟩
        case measure => simp [intOf]; omega
      · gi_wp2
        refine bodyPost_ret (results_none rfl _ _ _) rfl ?_
        exact ⟨⟨_, rfl⟩, .inr ⟨_, by rw [hpre2.out]; exact List.take_prefix _ _, hJx3⟩⟩
    · obtain rfl : k = v.txs.len := by omega
      have hge : ¬ ((v.txs.len : Nat) : Int) < (v.txs.len : Int) := by omega
      have hall : pre = tqs qs hE := by rw [hpre, List.take_of_length_le (by rw [tqs_length]; omega)]
      replace hpre := Box.mk hpre
      replace hall := Box.mk hall
      gi_wp2
      go_end0
      exact ⟨⟨_, rfl⟩, .inl (by rw [← hall.out]; exact hj)⟩

set_option maxHeartbeats 1000000 in
theorem each_in (n : Nat) (v : BlkV) (w : World) :
    CallsIn Fence.wide n Try.prog 48 #[.agg (blkC v).toArray] w fun e w' => e = .returned (.func (.func 81) #[] #[.pointer (some ⟨w.heap.size, 0, none⟩)]) ∧ w' = w.alloc (.cells (blkC v).toArray 50) := by
  refine callsIn_of_wp Try.func48 rfl trivial ?_ rfl
  simp only [Try.ntmps48, List.size_toArray, List.length_cons, List.length_nil, Nat.reduceAdd, Nat.reduceSub, Array.replicate_succ, Array.replicate_zero, List.push_toArray, List.append_toArray, List.nil_append, List.cons_append]
  gi_wp2
  go_ret
  exact ⟨rfl, rfl⟩

theorem each_stops (n : Nat) (hn : 1 ≤ n) (Bs : Nat) (w0 w : World) (v : BlkV) (qs : List (TxV × TxD)) (hS : SL (fun q : TxV × TxD => txC q.1) 38 w0 v.txs.a v.txs.len v.txs.cap qs) (hE : ∀ q ∈ qs, TxL w0 q.1 q.2 ∧ okT q.2) (hw : Below w0.heap.size w0 w) (hBs : w.heap[Bs]? = some (.cells (blkC v).toArray 50 (0, 0))) :
    SeqStopsK Fence.wide n Try.prog 81 #[.pointer (some ⟨Bs, 0, none⟩)] (fun x : TQ w0 => #[Value.agg (txC x.1.1).toArray]) (Below w0.heap.size) (fun ys => ys = tqs qs hE) (fun pre => pre <+: tqs qs hE) qs.length w := fun l J Jx W hW hJ hJx hY h0 =>
  each1_in n hn l Bs w0 v qs hS hE J Jx W.heap.size hJ hY W (hw.trans (hW.mono hw.size)) (keepBlock hW hBs) h0

end Go.Proofs.Ytahkiabpjfcfdaa
