/- Layer 14: Weight; the document's Size, Cost, Weight. -/
import Derived.Test.YtahkiabpjfcfdaaCost2
import Derived.Test.YtahkiabpjfcfdaaFeeP
import Derived.Test.YtahkiabpjfcfdaaRef5
namespace Go.Proofs.Ytahkiabpjfcfdaa
open Go.RowKit
set_option linter.unusedVariables false
set_option linter.unusedSimpArgs false
set_option maxRecDepth 100000
attribute [local irreducible] Int.lt Int.le
attribute [local go_sem ↓] load_key store_key alloc_key build0_key eq_key load_tx store_tx alloc_tx build0_tx
attribute [local go_sem] rowOf_drew rowOf_alloc_old rowOf_alloc_new canPut_drew canPut_alloc_old canPut_alloc_new setCells_alloc_new

def heavyB (t : TxV) : Bool := decide (60 < t.ins.len) || decide (60 < t.outs.len) || decide (60 < t.nulls.len) || decide (60 < t.notes.len)
set_option maxHeartbeats 1000000 in
theorem heavy14_any (t : TxV) (W : World) : Calls Try.prog 17 #[.agg (txC t).toArray] W (Gives (.bool (heavyB t)) W) := by
  have hB0 : Below W.heap.size W (W.alloc (.cells (txC t).toArray 41)) := (Below.refl _ _).alloc (Nat.le_refl _) _
  by_cases h1 : 60 < t.ins.len
  · have hE : heavyB t = true := by unfold heavyB; simp [h1]
    have h1' : (60 : Int) < t.ins.len := by omega
    rw [hE]
    replace hE := Box.mk hE
    go_enter Try.func17, Try.ntmps17
    go_wp2
    go_ret
    exact gives_bool rfl hB0
  · have h1' : ¬ (60 : Int) < t.ins.len := by omega
    by_cases h2 : 60 < t.outs.len
    · have hE : heavyB t = true := by unfold heavyB; simp [h2]
      have h2' : (60 : Int) < t.outs.len := by omega
      rw [hE]
      replace hE := Box.mk hE
      go_enter Try.func17, Try.ntmps17
      go_wp2
      go_ret
      exact gives_bool rfl hB0
    · have h2' : ¬ (60 : Int) < t.outs.len := by omega
      by_cases h3 : 60 < t.nulls.len
      · have hE : heavyB t = true := by unfold heavyB; simp [h3]
        have h3' : (60 : Int) < t.nulls.len := by omega
        rw [hE]
        replace hE := Box.mk hE
        go_enter Try.func17, Try.ntmps17
        go_wp2
        go_ret
        exact gives_bool rfl hB0
      · have h3' : ¬ (60 : Int) < t.nulls.len := by omega
        have hE : heavyB t = decide ((60 : Int) < t.notes.len) := by
          unfold heavyB; simp only [h1, h2, h3, decide_false, Bool.false_or]
          rw [Bool.eq_iff_iff, decide_eq_true_eq, decide_eq_true_eq]; omega
        rw [hE]
        replace hE := Box.mk hE
        go_enter Try.func17, Try.ntmps17
        go_wp2
        go_ret
        exact gives_bool rfl hB0


theorem heavy14_small {t : TxV} (h : heavyB t = false) : Small t := by
  simp [heavyB] at h
  unfold Small; omega
theorem tx_row38 {w : World} {b : Nat} {t : TxV} (hw : w.heap[b]? = some (.cells (txC t).toArray 41 (0, 0))) : rowOf w b 0 38 = some (txC t) := by
  rw [rowOf_block hw 0 38 (by simp [txC_length])]
  congr 1; simp
  exact List.take_of_length_le (by rw [txC_length]; exact Nat.le_refl _)

def weightV (t : TxV) (d : TxD) (fee : Int) : Int := if decide (dueN t * 5000 ≤ heldN fee) then (costN d : Int) else costN d + 16000
set_option maxHeartbeats 1000000 in
theorem costWeight_any (t : TxV) (d : TxD) (fee : Int) (W : World) (h : TxL W t d) (hs : Small t) : Calls Try.prog 22 #[.agg (txC t).toArray, .int .i64 fee] W (Gives (.int .i64 (weightV t d fee)) W) := by
  have hB0 : Below W.heap.size W (W.alloc (.cells (txC t).toArray 41)) := (Below.refl _ _).alloc (Nat.le_refl _) _
  have hH0 := Box.mk (heap_alloc_new W (.cells (txC t).toArray 41))
  have hc := Box.mk (fun w h => cost_any t d w h)
  have hp := Box.mk (fun w => pays_any t fee w hs)
  have h0 := Box.mk (h.below hB0)
  have hv : weightV t d fee = if decide (dueN t * 5000 ≤ heldN fee) then (costN d : Int) else costN d + 16000 := rfl
  have hcb : (costN d : Int) ≤ 1000000 := by have := sizeB_le d; unfold costN; omega
  rw [hv]
  clear hv
  generalize costN d = C at *
  replace h := Box.mk h
  cases hq : decide (dueN t * 5000 ≤ heldN fee)
  all_goals
    rw [hq] at hp
    replace hq := Box.mk hq
    go_enter Try.func22, Try.ntmps22
    go_wp2_with fail
    refine (hc.out _ h0.out).mono ?_
    rintro e w1 ⟨rfl, hb1⟩
    have hH1 := keepBlock hb1 hH0.out
    have hr1 := tx_row38 hH1
    have hl1 := (Array.getElem?_eq_some_iff.1 hH1).1
    have hB1 := Box.mk (hB0.trans (hb1.mono hB0.size))
    replace hH1 := Box.mk hH1
    clear hb1
    go_wp2_with fail
    refine (hp.out _).mono ?_
    rintro e w2 ⟨rfl, hb2⟩
    have hfin := Box.mk (hB1.out.trans (hb2.mono hB1.out.size))
    clear hb2
    go_wp2
    go_ret
    exact gives_int (by simp) hfin.out

set_option maxHeartbeats 1000000 in
theorem refSize_any (t : TxV) (d : TxD) (W : World) (h : TxL W t d) : Calls Try.prog 24 #[.agg (txC t).toArray] W (Gives (.int .i64 (sizeB d)) W) := by
  have hB0 : Below W.heap.size W (W.alloc (.cells (txC t).toArray 41)) := (Below.refl _ _).alloc (Nat.le_refl _) _
  have h0 := Box.mk (h.below hB0)
  replace h := Box.mk h
  go_enter Try.func24, Try.ntmps24
  go_wp2_with fail
  refine (refEncode_any t d _ h0.out).mono ?_
  rintro e w1 ⟨rfl, hb1⟩
  unfold valE
  have hs : ((encV d).1.length : Int) = (sizeB d : Int) := rfl
  generalize sizeB d = n at *
  go_wp2
  go_ret
  exact gives_int rfl (hB0.trans (hb1.mono hB0.size))

set_option maxHeartbeats 1000000 in
theorem refCost_any (t : TxV) (d : TxD) (W : World) (h : TxL W t d) : Calls Try.prog 21 #[.agg (txC t).toArray] W (Gives (.int .i64 (costN d)) W) := by
  have hB0 : Below W.heap.size W (W.alloc (.cells (txC t).toArray 41)) := (Below.refl _ _).alloc (Nat.le_refl _) _
  have h0 := Box.mk (fun w => refSize_any t d w)
  have h1 := Box.mk (h.below hB0)
  replace h := Box.mk h
  have hc : costN d = max (sizeB d) 4000 := rfl
  have hle := sizeB_le d
  obtain ⟨n, hn⟩ : ∃ n, sizeB d = n := ⟨_, rfl⟩
  rw [hn] at h0 hc hle
  replace hn := Box.mk hn
  obtain ⟨m, hm⟩ : ∃ m, costN d = m := ⟨_, rfl⟩
  rw [hm] at hc
  rw [hm]
  replace hm := Box.mk hm
  replace hc := Box.mk hc
  have hn1 : (n : Int) ≤ 100000 := by omega
  go_enter Try.func21, Try.ntmps21
  go_wp2_with fail
  refine (h0.out _ h1.out).mono ?_
  rintro e w1 ⟨rfl, hb1⟩
  go_wp2
  go_ret
  exact gives_int (by rw [hc.out]; omega) (hB0.trans (hb1.mono hB0.size))

set_option maxHeartbeats 1000000 in
theorem refWeight_any (t : TxV) (d : TxD) (fee : Int) (W : World) (h : TxL W t d) (hs : Small t) : Calls Try.prog 23 #[.agg (txC t).toArray, .int .i64 fee] W (Gives (.int .i64 (weightV t d fee)) W) := by
  have hB0 : Below W.heap.size W (W.alloc (.cells (txC t).toArray 41)) := (Below.refl _ _).alloc (Nat.le_refl _) _
  have hH0 := Box.mk (heap_alloc_new W (.cells (txC t).toArray 41))
  have hc := Box.mk (fun w h => refCost_any t d w h)
  have hp := Box.mk (fun w => rpays_any t fee w hs)
  have h0 := Box.mk (h.below hB0)
  have hv : weightV t d fee = if decide (dueN t * 5000 ≤ heldN fee) then (costN d : Int) else costN d + 16000 := rfl
  have hcb : (costN d : Int) ≤ 1000000 := by have := sizeB_le d; unfold costN; omega
  rw [hv]
  clear hv
  generalize costN d = C at *
  replace h := Box.mk h
  cases hq : decide (dueN t * 5000 ≤ heldN fee)
  all_goals
    rw [hq] at hp
    replace hq := Box.mk hq
    go_enter Try.func23, Try.ntmps23
    go_wp2_with fail
    refine (hp.out _).mono ?_
    rintro e w1 ⟨rfl, hb1⟩
    have hH1 := keepBlock hb1 hH0.out
    have hr1 := tx_row38 hH1
    have hl1 := (Array.getElem?_eq_some_iff.1 hH1).1
    have hB1 := Box.mk (hB0.trans (hb1.mono hB0.size))
    have h1 := Box.mk (h0.out.below hb1)
    replace hH1 := Box.mk hH1
    clear hb1
    go_wp2_with fail
    refine (hc.out _ h1.out).mono ?_
    rintro e w2 ⟨rfl, hb2⟩
    have hfin := Box.mk (hB1.out.trans (hb2.mono hB1.out.size))
    clear hb2
    go_wp2
    go_ret
    exact gives_int (by simp) hfin.out

end Go.Proofs.Ytahkiabpjfcfdaa
