/- The document's own Sub, Sum, Fee; what is shown. -/
import Derived.Test.YtghjpbmemogioaaMoney6
import Derived.Test.YtghjpbmemogioaaLawEnd
namespace Go.Proofs.Ytghjpbmemogioaa
open Go.RowKit
set_option linter.unusedVariables false
set_option linter.unusedSimpArgs false

set_option maxHeartbeats 1000000 in
theorem refSub_any (a b : Int) (w : World) : Calls Try.prog 19 #[.int .i64 a, .int .i64 b] w (Gives (toldV (lessO a b)) w) := by
  go_enter Try.func19, Try.ntmps19
  go_wp2_with fail
  refine (refMay_any a w).mono ?_
  rw [may_at]
  rintro e w1 ⟨rfl, rfl⟩
  cases h1 : sureO a with
  | none =>
    have hA : lessO a b = none := by unfold lessO; rw [h1]; rfl
    simp only [Option.isSome_none]
    replace hA := Box.mk hA
    replace h1 := Box.mk h1
    go_wp2
    refine bodyPost_ret (v := toldV none) (by simp [results, Try.results19, go_sem, toldV, valN_none, errN_none]) rfl ?_
    exact gives (by rw [hA.out]) (Below.refl _ _)
  | some x =>
    obtain ⟨rfl, hx⟩ := sureO_some h1
    simp only [Option.isSome_some]
    go_wp2_with fail
    refine (refMay_any b w1).mono ?_
    rw [may_at]
    rintro e w2 ⟨rfl, rfl⟩
    cases h2 : sureO b with
    | none =>
      have hA : lessO x b = none := by unfold lessO; rw [h1, h2]; rfl
      simp only [Option.isSome_none]
      replace hA := Box.mk hA
      replace h1 := Box.mk h1
      replace h2 := Box.mk h2
      go_wp2
      refine bodyPost_ret (v := toldV none) (by simp [results, Try.results19, go_sem, toldV, valN_none, errN_none]) rfl ?_
      exact gives (by rw [hA.out]) (Below.refl _ _)
    | some y =>
      obtain ⟨rfl, hy⟩ := sureO_some h2
      simp only [Option.isSome_some]
      have hA : lessO x y = sureO (x - y) := by unfold lessO; rw [h1, h2]; rfl
      replace hA := Box.mk hA
      replace h1 := Box.mk h1
      replace h2 := Box.mk h2
      have hw : wrap64 (x - y) = x - y := by unfold wrap64; omega
      by_cases h3 : x < y
      · have hS : sureO (x - y) = none := by unfold sureO; rw [if_neg (by omega)]
        replace hS := Box.mk hS
        go_wp2
        refine bodyPost_ret (v := toldV none) (by simp [results, Try.results19, go_sem, toldV, valN_none, errN_none]) rfl ?_
        exact gives (by rw [hA.out, hS.out]) (Below.refl _ _)
      · have hS : sureO (x - y) = some (x - y) := by unfold sureO; rw [if_pos (by omega)]
        replace hS := Box.mk hS
        go_wp2
        refine bodyPost_ret (v := toldV (some (x - y))) (by simp [results, Try.results19, go_sem, toldV, valN_some, errN_some]) rfl ?_
        exact gives (by rw [hA.out, hS.out]) (Below.refl _ _)

theorem addV_of {n x : Int} (hn : 0 ≤ n ∧ n ≤ 2100000000000000) : addV n x = addO n x := by
  rw [addV_eq]
  have h : sureO n = some n := by unfold sureO; rw [if_pos hn]
  rw [h]
  rfl

set_option maxHeartbeats 1000000 in
theorem refSum_any (a : Option Addr) (n c : Nat) (l : List Int) (w : World) (h : IL w a n c l) : Calls Try.prog 20 #[.slice a n c] w (Gives (toldV (addedO l)) w) := by
  have hn : n = l.length := h.1.1
  have hm : n ≤ maxLen := Nat.le_trans h.1.2.1 h.1.2.2.1
  have hm' : (n : Int) ≤ 9223372036854775807 := by unfold maxLen at hm; omega
  replace hn := Box.mk hn
  have H := Box.mk h
  clear h hm
  go_enter Try.func20, Try.ntmps20
  go_wp2_with fail
  go_loopw [4, 5, 6, 7] (fun v i _ _ wr => Below w.heap.size w wr ∧ ∃ j : Nat, j ≤ n ∧ i = .int .i64 j ∧ ∃ m : Int, addedO (l.take j) = some m ∧ 0 ≤ m ∧ m ≤ 2100000000000000 ∧ v = .int .i64 m) (fun _ i _ _ _ => n - (intOf i).toNat)
  case atStart => exact ⟨Below.refl _ _, 0, Nat.zero_le _, rfl, 0, rfl, by omega, by omega, rfl⟩
  case round =>
    obtain ⟨hbr, j, hj, rfl, m, hm, hm0, hm1, rfl⟩ := hrel
    by_cases hlt : j < n
    · have hlt' : (j : Int) < (n : Int) := by omega
      have hjl : j < l.length := by rw [← hn.out]; exact hlt
      have hx : l[j]? = some l[j] := List.getElem?_eq_getElem hjl
      obtain ⟨b, o, rfl, hb, hc⟩ := H.out.at hx
      have hs := addedO_take_succ hm hx
      have hc' : wr.cell? ⟨b, o + j, none⟩ = some (.int .i64 l[j]) := by rw [hbr.cell (p := ⟨b, o + j, none⟩) hb]; exact hc
      have hbsz : b < wr.heap.size := Nat.lt_of_lt_of_le hb hbr.size
      generalize l[j] = x at *
      rw [← addV_of ⟨hm0, hm1⟩] at hs
      replace hm := Box.mk hm
      replace hx := Box.mk hx
      replace hc := Box.mk hc
      replace hm0 := Box.mk hm0
      replace hm1 := Box.mk hm1
      cases h1 : addV m x with
      | none =>
        have hA : addedO l = none := addedO_take_none (j := j + 1) (by rw [hs, h1])
        replace hA := Box.mk hA
        replace h1 := Box.mk h1
        replace hs := Box.mk hs
        go_wp2_with fail
        refine (refAdd_any m x _).mono ?_
        rw [h1.out]
        rintro e w1 ⟨rfl, hb1⟩
        simp only [toldV, valN_none, errN_none]
        go_wp2
        refine bodyPost_ret (v := toldV none) (by simp [results, Try.results20, go_sem, toldV, valN_none, errN_none]) rfl ?_
        exact gives (by rw [hA.out]) (since_next hbr hb1)
      | some y =>
        have hA : addedO (l.take (j + 1)) = some y := by rw [hs, h1]
        have hy := addedO_range hA
        replace h1 := Box.mk h1
        replace hs := Box.mk hs
        replace hy := Box.mk hy
        replace hA := Box.mk hA
        go_wp2_with fail
        refine (refAdd_any m x _).mono ?_
        rw [h1.out]
        rintro e w1 ⟨rfl, hb1⟩
        simp only [toldV, valN_some, errN_some]
        go_wp2
        go_roundw
        case rel => exact ⟨since_next hbr hb1, j + 1, by omega, by go_num, y, hA.out, hy.out.1, hy.out.2, rfl⟩
        case measure => simp [intOf]; omega
    · obtain rfl : j = n := by omega
      have hA : addedO l = some m := by rw [hn.out, List.take_length] at hm; exact hm
      replace hA := Box.mk hA
      replace hm := Box.mk hm
      go_wp2
      refine bodyPost_ret (v := toldV (some m)) (by simp [results, Try.results20, go_sem, toldV, valN_some, errN_some]) rfl ?_
      exact gives (by rw [hA.out]) hbr

theorem shown02 (W : World) : Calls Try.prog 13 #[] W (Gives (.bool true) W) := by
  go_enter Try.func13, Try.ntmps13
  go_wp2_with fail
  refine (add_any 3 4 _ (by unfold I64; omega) (by unfold I64; omega)).mono ?_
  rintro e w1 ⟨rfl, hb1⟩
  rw [show addV 3 4 = some 7 from by decide]
  simp only [toldV, valN_some, errN_some]
  go_wp2_with fail
  refine (sub_any 3 5 _ (by unfold I64; omega) (by unfold I64; omega)).mono ?_
  rintro e w2 ⟨rfl, hb2⟩
  rw [show lessO 3 5 = none from by decide]
  simp only [toldV, valN_none, errN_none]
  go_wp2
  go_ret
  exact gives_bool rfl (since_next hb1 hb2)

set_option maxHeartbeats 2000000 in
theorem refFee_any (a1 a2 : Option Addr) (n1 c1 n2 c2 : Nat) (l m : List Int) (bal : Int) (w : World) (hb : I64 bal) (h1 : IL w a1 n1 c1 l) (h2 : IL w a2 n2 c2 m) :
    Calls Try.prog 21 #[.slice a1 n1 c1, .slice a2 n2 c2, .int .i64 bal] w (Gives (toldV (feeO l m bal)) w) := by
  have H1 := Box.mk h1
  have H2 := Box.mk h2
  clear h1 h2
  go_enter Try.func21, Try.ntmps21
  go_wp2_with fail
  refine (refSum_any a1 n1 c1 l w H1.out).mono ?_
  rintro e w1 ⟨rfl, hb1⟩
  cases e1 : addedO l with
  | none =>
    have hF : feeO l m bal = none := by unfold feeO; rw [e1]; rfl
    replace hF := Box.mk hF
    replace e1 := Box.mk e1
    simp only [toldV, valN_none, errN_none]
    go_wp2_with fail
    refine (refSum_any a2 n2 c2 m w1 (H2.out.below hb1)).mono ?_
    rintro e w2 ⟨rfl, hb2⟩
    simp only [toldV]
    go_wp2
    refine bodyPost_ret (v := toldV none) (by simp [results, Try.results21, go_sem, toldV, valN_none, errN_none]) rfl ?_
    exact gives (by rw [hF.out]) (since_next hb1 hb2)
  | some a =>
    simp only [toldV, valN_some, errN_some]
    go_wp2_with fail
    refine (refSum_any a2 n2 c2 m w1 (H2.out.below hb1)).mono ?_
    rintro e w2 ⟨rfl, hb2⟩
    cases e2 : addedO m with
    | none =>
      have hF : feeO l m bal = none := by unfold feeO; rw [e1, e2]; rfl
      replace hF := Box.mk hF
      replace e1 := Box.mk e1
      replace e2 := Box.mk e2
      simp only [toldV, valN_none, errN_none]
      go_wp2
      refine bodyPost_ret (v := toldV none) (by simp [results, Try.results21, go_sem, toldV, valN_none, errN_none]) rfl ?_
      exact gives (by rw [hF.out]) (since_next hb1 hb2)
    | some b =>
      have ra := addedO_range e1
      have rb := addedO_range e2
      simp only [toldV, valN_some, errN_some]
      by_cases hlo : bal < -2100000000000000
      · have hF : feeO l m bal = none := by
          unfold feeO; rw [e1, e2]; simp only [Option.bind_some]; rw [if_neg (by omega)]
          have : sureO (negV bal) = none := by unfold sureO negV wrap64; unfold I64 at hb; rw [if_neg (by omega)]
          rw [show addedO [b, negV bal] = addV b (negV bal) from rfl, addV_eq, this]
          cases sureO b <;> rfl
        replace hF := Box.mk hF
        replace e1 := Box.mk e1
        replace e2 := Box.mk e2
        replace ra := Box.mk ra
        replace rb := Box.mk rb
        go_wp2
        refine bodyPost_ret (v := toldV none) (by simp [results, Try.results21, go_sem, toldV, valN_none, errN_none]) rfl ?_
        exact gives (by rw [hF.out]) (since_next hb1 hb2)
      · by_cases hhi : 2100000000000000 < bal
        · have hF : feeO l m bal = none := by
            unfold feeO; rw [e1, e2]; simp only [Option.bind_some]; rw [if_pos (by omega)]
            have : sureO bal = none := by unfold sureO; rw [if_neg (by omega)]
            rw [show addedO [a, bal] = addV a bal from rfl, addV_eq, this]
            cases sureO a <;> rfl
          replace hF := Box.mk hF
          replace e1 := Box.mk e1
          replace e2 := Box.mk e2
          replace ra := Box.mk ra
          replace rb := Box.mk rb
          go_wp2
          refine bodyPost_ret (v := toldV none) (by simp [results, Try.results21, go_sem, toldV, valN_none, errN_none]) rfl ?_
          exact gives (by rw [hF.out]) (since_next hb1 hb2)
        · by_cases hbal : 0 ≤ bal
          · skip
            have hF : feeO l m bal = (addV a bal).bind fun s => lessO s b := by unfold feeO; rw [e1, e2]; simp only [Option.bind_some]; rw [if_pos hbal]; rfl
            replace hF := Box.mk hF
            replace e1 := Box.mk e1
            replace e2 := Box.mk e2
            replace ra := Box.mk ra
            replace rb := Box.mk rb
            go_wp2_with fail
            refine (refAdd_any a bal _).mono ?_
            rintro e w3 ⟨rfl, hb3⟩
            cases e3 : addV a bal with
            | none =>
              replace e3 := Box.mk e3
              simp only [toldV, valN_none, errN_none]
              go_wp2
              refine bodyPost_ret (v := toldV none) (by simp [results, Try.results21, go_sem, toldV, valN_none, errN_none]) rfl ?_
              exact gives (by rw [hF.out, e3.out]; rfl) (since_next (since_next hb1 hb2) hb3)
            | some s =>
              replace e3 := Box.mk e3
              simp only [toldV, valN_some, errN_some]
              go_wp2_with fail
              refine (refSub_any s b _).mono ?_
              rintro e w4 ⟨rfl, hb4⟩
              simp only [toldV]
              go_wp2
              refine bodyPost_ret (v := toldV (lessO s b)) (by simp [results, Try.results21, go_sem, toldV]) rfl ?_
              exact gives (by rw [hF.out, e3.out]; rfl) (since_next (since_next (since_next hb1 hb2) hb3) hb4)
          · have hn : wrap64 (-bal) = -bal := by unfold wrap64; omega
            have hF : feeO l m bal = (addV b (-bal)).bind fun s => lessO a s := by unfold feeO; rw [e1, e2]; simp only [Option.bind_some]; rw [if_neg hbal]; rw [show negV bal = -bal from hn]; rfl
            replace hF := Box.mk hF
            replace e1 := Box.mk e1
            replace e2 := Box.mk e2
            replace ra := Box.mk ra
            replace rb := Box.mk rb
            go_wp2_with fail
            refine (refAdd_any b (-bal) _).mono ?_
            rintro e w3 ⟨rfl, hb3⟩
            cases e3 : addV b (-bal) with
            | none =>
              replace e3 := Box.mk e3
              simp only [toldV, valN_none, errN_none]
              go_wp2
              refine bodyPost_ret (v := toldV none) (by simp [results, Try.results21, go_sem, toldV, valN_none, errN_none]) rfl ?_
              exact gives (by rw [hF.out, e3.out]; rfl) (since_next (since_next hb1 hb2) hb3)
            | some s =>
              replace e3 := Box.mk e3
              simp only [toldV, valN_some, errN_some]
              go_wp2_with fail
              refine (refSub_any a s _).mono ?_
              rintro e w4 ⟨rfl, hb4⟩
              simp only [toldV]
              go_wp2
              refine bodyPost_ret (v := toldV (lessO a s)) (by simp [results, Try.results21, go_sem, toldV]) rfl ?_
              exact gives (by rw [hF.out, e3.out]; rfl) (since_next (since_next (since_next hb1 hb2) hb3) hb4)

end Go.Proofs.Ytghjpbmemogioaa
