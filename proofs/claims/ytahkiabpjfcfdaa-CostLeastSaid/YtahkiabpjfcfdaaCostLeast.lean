/- Layer 14: nothing costs less than the least, or than its bytes; what pays too little weighs just so much more. -/
import Derived.Test.YtahkiabpjfcfdaaCost3
namespace Go.Proofs.Ytahkiabpjfcfdaa
open Go.RowKit
set_option linter.unusedVariables false
set_option linter.unusedSimpArgs false
set_option maxRecDepth 100000
attribute [local irreducible] Int.lt Int.le
attribute [local go_sem ↓] load_key store_key alloc_key build0_key eq_key load_tx store_tx alloc_tx build0_tx
attribute [local go_sem] rowOf_drew rowOf_alloc_old rowOf_alloc_new canPut_drew canPut_alloc_old canPut_alloc_new setCells_alloc_new

theorem weight_cases (t : TxV) (d : TxD) (fee : Int) : weightV t d fee = costN d ∨ weightV t d fee = costN d + 16000 := by
  unfold weightV; split <;> simp
theorem weight_le_of {t : TxV} {d : TxD} {x y : Int} (h : x ≤ y) : weightV t d y ≤ weightV t d x := by
  have k : heldN x ≤ heldN y := by unfold heldN; omega
  generalize ha : heldN x = a at k
  generalize hb : heldN y = b at k
  unfold weightV
  rw [ha, hb]
  by_cases h1 : dueN t * 5000 ≤ a
  · have h2 : dueN t * 5000 ≤ b := by omega
    simp [h1, h2]
  · simp only [h1, decide_false]
    split <;> simp <;> omega
theorem weight_none {t : TxV} {d : TxD} (hs : Small t) : weightV t d 0 = costN d + 16000 := by
  have := due_bounds hs
  unfold weightV heldN
  rw [if_neg (by simp only [decide_eq_true_eq]; omega)]
theorem weight_all {t : TxV} {d : TxD} (hs : Small t) : weightV t d 2100000000000000 = costN d := by
  have := due_bounds hs
  unfold weightV heldN
  rw [if_pos (by simp only [decide_eq_true_eq]; omega)]

set_option maxHeartbeats 4000000 in
theorem costLeast_walk (t : TxV) (d : TxD) (low high : Int) (W : World) (h : TxL W t d) : Calls Try.prog 7 #[.agg (txC t).toArray, .int .i64 low, .int .i64 high] W (LawEnd W) := by
  have hB0 : Below W.heap.size W (W.alloc (.cells (txC t).toArray 41)) := (Below.refl _ _).alloc (Nat.le_refl _) _
  have hH0 := heap_alloc_new W (.cells (txC t).toArray 41)
  have h0 := Box.mk (h.below hB0)
  have hP : ∀ w, SinceP (W.alloc (.cells (txC t).toArray 41)) w → (rowOf w W.heap.size 0 38 = some (txC t) ∧ W.heap.size < w.heap.size) := fun w hw =>
    ⟨tx_row38 ((hw.out.block _ (by simp)).trans hH0), Nat.lt_of_lt_of_le (by simp) hw.out.size⟩
  have hP0 : SinceP (W.alloc (.cells (txC t).toArray 41)) (W.alloc (.cells (txC t).toArray 41)) := SinceP.refl _
  replace h := Box.mk h
  replace hP := Box.mk hP
  replace hH0 := Box.mk hH0
  cases hv : heavyB t
  · have hs := heavy14_small hv
    have cc := Box.mk (fun w hw => cost_any t d w hw)
    have ca := Box.mk (fun w hw => costWeight_any t d (min low high) w hw hs)
    have cb := Box.mk (fun w hw => costWeight_any t d (max low high) w hw hs)
    have c0 := Box.mk (fun w hw => costWeight_any t d 0 w hw hs)
    have cm := Box.mk (fun w hw => costWeight_any t d 2100000000000000 w hw hs)
    have cs := Box.mk (fun w hw => refSize_any t d w hw)
    rw [weight_none hs] at c0
    rw [weight_all hs] at cm
    have k1 := weight_cases t d (min low high)
    have k2 := weight_le_of (t := t) (d := d) (show min low high ≤ max low high by omega)
    have hc : costN d = max (sizeB d) 4000 := rfl
    have hle := sizeB_le d
    have hw14 := Box.mk (heavy14_any t)
    rw [hv] at hw14
    replace hs := Box.mk hs
    generalize weightV t d (min low high) = A at *
    generalize weightV t d (max low high) = B at *
    generalize costN d = C at *
    generalize sizeB d = S at *
    have f1 : (4000 : Int) ≤ C := by omega
    have f2 : (S : Int) ≤ C := by omega
    have f5 : (C : Int) ≤ 200000 := by omega
    have key : ((C : Int) = 4000) ∨ (¬ (C : Int) = 4000 ∧ (C : Int) = S) := by omega
    replace hv := Box.mk hv
    replace hc := Box.mk hc
    replace hle := Box.mk hle
    rcases k1 with rfl | rfl <;> rcases key with k3 | ⟨k3, k4⟩
    case' inl.inl => obtain rfl : C = 4000 := by omega
    case' inr.inl => obtain rfl : C = 4000 := by omega
    case' inl.inr => obtain rfl : C = S := by omega
                     have f3 : ((C : Int) == 4000) = false := beq_eq_false_iff_ne.mpr k3
    case' inr.inr => obtain rfl : C = S := by omega
                     have f3 : ((C : Int) == 4000) = false := beq_eq_false_iff_ne.mpr k3
    all_goals
      clear k3
      go_enter Try.func7, Try.ntmps7
      go_wp2_with fail
      refine (hw14.out _).mono ?_
      rintro e w1 ⟨rfl, hb1⟩
      have q1 := hP0.next hb1
      go_wp2_with fail
      refine (shown14 _).mono ?_
      rintro e w2 ⟨rfl, hb2⟩
      have q2 := q1.next hb2
      obtain ⟨r2, l2⟩ := hP.out _ q2
      clear hb1 hb2
      go_wp2_with fail
      refine (cc.out _ (h0.out.below q2.out)).mono ?_
      rintro e w3 ⟨rfl, hb3⟩
      have q3 := q2.next hb3
      obtain ⟨r3, l3⟩ := hP.out _ q3
      clear hb3 r2 l2
      go_wp2_with fail
      refine (ca.out _ (h0.out.below q3.out)).mono ?_
      rintro e w4 ⟨rfl, hb4⟩
      have q4 := q3.next hb4
      obtain ⟨r4, l4⟩ := hP.out _ q4
      clear hb4 r3 l3
      go_wp2_with fail
      refine (cb.out _ (h0.out.below q4.out)).mono ?_
      rintro e w5 ⟨rfl, hb5⟩
      have q5 := q4.next hb5
      obtain ⟨r5, l5⟩ := hP.out _ q5
      clear hb5 r4 l4
      go_wp2_with fail
      refine (cs.out _ (h0.out.below q5.out)).mono ?_
      rintro e w6 ⟨rfl, hb6⟩
      have q6 := q5.next hb6
      obtain ⟨r6, l6⟩ := hP.out _ q6
      clear hb6 r5 l5
      go_wp2_with fail
      try
        refine (cs.out _ (h0.out.below q6.out)).mono ?_
        rintro e w7 ⟨rfl, hb7⟩
        replace q6 := q6.next hb7
        clear r6 l6 hb7
        obtain ⟨r6, l6⟩ := hP.out _ q6
        go_wp2_with fail
      refine (c0.out _ (h0.out.below q6.out)).mono ?_
      rintro e w8 ⟨rfl, hb8⟩
      have q8 := q6.next hb8
      obtain ⟨r8, l8⟩ := hP.out _ q8
      clear hb8 r6 l6
      go_wp2_with fail
      refine (cm.out _ (h0.out.below q8.out)).mono ?_
      rintro e w9 ⟨rfl, hb9⟩
      have q9 := q8.next hb9
      have hfin := Box.mk (Below.of q9.out hB0.size hB0)
      clear hb9 r8 l8
      go_wp2
      go_ret
      exact gives_bool rfl hfin.out
  · have hw14 := Box.mk (heavy14_any t)
    rw [hv] at hw14
    replace hv := Box.mk hv
    go_enter Try.func7, Try.ntmps7
    go_wp2_with fail
    refine (hw14.out _).mono ?_
    rintro e w1 ⟨rfl, hb1⟩
    have q1 := hP0.next hb1
    go_wp2_with fail
    refine (shown14 _).mono ?_
    rintro e w2 ⟨rfl, hb2⟩
    have hfin := Box.mk (Below.of (q1.next hb2).out hB0.size hB0)
    go_wp2
    go_ret
    exact gives_bool rfl hfin.out

end Go.Proofs.Ytahkiabpjfcfdaa
