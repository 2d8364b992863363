/- Layer 2: money added bit by bit; its range; the document's answers. -/
import Derived.Test.YtghjpbmemogioaaMoney7
namespace Go.Proofs.Ytghjpbmemogioaa
open Go.RowKit
set_option linter.unusedVariables false
set_option linter.unusedSimpArgs false

theorem addedO_three (a b c : Int) : addedO [a, b, c] = (addV a b).bind fun x => addV x c := by
  have h : addedO [a, b, c] = (addV a b).bind fun x => addO x c := by
    unfold addV addedO
    show (addO 0 a).bind (fun x => (addO x b).bind fun y => (addO y c).bind some) = ((addO 0 a).bind fun x => (addO x b).bind some).bind fun x => addO x c
    cases addO 0 a with
    | none => rfl
    | some x =>
      show (addO x b).bind (fun y => (addO y c).bind some) = ((addO x b).bind some).bind fun x => addO x c
      cases addO x b with
      | none => rfl
      | some y => show (addO y c).bind some = addO y c; cases addO y c <;> rfl
  rw [h]
  cases h1 : addV a b with
  | none => rfl
  | some x => exact (addV_of (addedO_range h1)).symm

theorem rows_i3 (a b c : Int) : (rows iC [a, b, c]).toArray = #[.int .i64 a, .int .i64 b, .int .i64 c] := by rw [rows_cons, rows_cons, rows_cons, rows_nil]; rfl

set_option maxHeartbeats 1000000 in
theorem moneySteps_walk (a b c : Int) (W : World) (ha : I64 a) (hb : I64 b) (hc : I64 c) : Calls Try.prog 5 #[.int .i64 a, .int .i64 b, .int .i64 c] W (LawEnd W) := by
  replace ha := Box.mk ha
  replace hb := Box.mk hb
  replace hc := Box.mk hc
  have h3 := Box.mk (addedO_three a b c)
  go_enter Try.func5, Try.ntmps5
  go_wp2_with fail
  refine (add_any a b _ ha.out hb.out).mono ?_
  rintro e w1 ⟨rfl, hb1⟩
  cases e1 : addV a b with
  | none =>
    replace e1 := Box.mk e1
    simp only [toldV, valN_none, errN_none]
    go_wp2_with fail
    refine (add_any 0 c _ (by unfold I64; omega) hc.out).mono ?_
    rintro e w2 ⟨rfl, hb2⟩
    simp only [toldV]
    go_wp2_with fail
    refine (sum_any _ 3 3 [a, b, c] _ (IL.new w2 [a, b, c] _ _ _ rfl (rows_i3 _ _ _).symm (by simp) (by have := ha.out; have := hb.out; have := hc.out; simp; exact ⟨‹_›, ‹_›, ‹_›⟩))).mono ?_
    have hB : Below W.heap.size W (w2.alloc (.cells #[.int .i64 a, .int .i64 b, .int .i64 c] 2)) := (since_next hb1 hb2).alloc (Nat.le_trans hb1.size hb2.size) _
    rw [h3.out, e1.out]
    rintro e w3 ⟨rfl, hb3⟩
    simp only [Option.bind_none, toldV, valN_none, errN_none]
    go_wp2_with fail
    refine (shown02 _).mono ?_
    rintro e w4 ⟨rfl, hb4⟩
    go_wp2
    go_ret
    exact gives_bool rfl (since_next (since_next hB hb3) hb4)
  | some x =>
    have hx := addedO_range e1
    have hxI : Box (I64 x) := Box.mk (by unfold I64; omega)
    replace e1 := Box.mk e1
    replace hx := Box.mk hx
    simp only [toldV, valN_some, errN_some]
    go_wp2_with fail
    refine (add_any x c _ hxI.out hc.out).mono ?_
    rintro e w2 ⟨rfl, hb2⟩
    simp only [toldV]
    go_wp2_with fail
    refine (sum_any _ 3 3 [a, b, c] _ (IL.new w2 [a, b, c] _ _ _ rfl (rows_i3 _ _ _).symm (by simp) (by have := ha.out; have := hb.out; have := hc.out; simp; exact ⟨‹_›, ‹_›, ‹_›⟩))).mono ?_
    have hB : Below W.heap.size W (w2.alloc (.cells #[.int .i64 a, .int .i64 b, .int .i64 c] 2)) := (since_next hb1 hb2).alloc (Nat.le_trans hb1.size hb2.size) _
    rw [h3.out, e1.out]
    rintro e w3 ⟨rfl, hb3⟩
    simp only [Option.bind_some, toldV]
    go_wp2_with fail
    refine (shown02 _).mono ?_
    rintro e w4 ⟨rfl, hb4⟩
    go_wp2
    go_ret
    exact gives_bool rfl (since_next (since_next hB hb3) hb4)

set_option maxHeartbeats 2000000 in
theorem moneyTells_walk (a b : Int) (a1 a2 : Option Addr) (n1 c1 n2 c2 : Nat) (l m : List Int) (W : World) (ha : I64 a) (hb : I64 b) (h1 : IL W a1 n1 c1 l) (h2 : IL W a2 n2 c2 m) : Calls Try.prog 7 #[.int .i64 a, .int .i64 b, .slice a1 n1 c1, .slice a2 n2 c2] W (LawEnd W) := by
  replace ha := Box.mk ha
  replace hb := Box.mk hb
  replace h1 := Box.mk h1
  replace h2 := Box.mk h2
  by_cases hn1 : 1024 < n1
  · go_enter Try.func7, Try.ntmps7
    go_wp2_with fail
    refine (shown02 _).mono ?_
    rintro e w1 ⟨rfl, hb1⟩
    go_wp2
    go_ret
    exact gives_bool rfl hb1
  · by_cases hn2 : 1024 < n2
    · go_enter Try.func7, Try.ntmps7
      go_wp2_with fail
      refine (shown02 _).mono ?_
      rintro e w1 ⟨rfl, hb1⟩
      go_wp2
      go_ret
      exact gives_bool rfl hb1
    · have M1 := fun w => may_any a w ha.out
      have M2 := fun w => refMay_any a w
      obtain ⟨t, ht⟩ : ∃ t, t = decide (0 ≤ a ∧ a ≤ 2100000000000000) := ⟨_, rfl⟩
      simp only [← ht] at M1 M2
      replace M1 := Box.mk M1
      replace M2 := Box.mk M2
      clear ht
      cases t
      all_goals
      go_enter Try.func7, Try.ntmps7
      go_wp2_with fail
      refine (shown02 _).mono ?_
      rintro e w1 ⟨rfl, hb1⟩
      go_wp2_with fail
      refine (add_any a b _ ha.out hb.out).mono ?_
      rintro e w2 ⟨rfl, hb2⟩
      simp only [toldV]
      go_wp2_with fail
      refine (refAdd_any a b _).mono ?_
      rintro e w3 ⟨rfl, hb3⟩
      simp only [toldV]
      go_wp2_with fail
      refine (sub_any a b _ ha.out hb.out).mono ?_
      rintro e w4 ⟨rfl, hb4⟩
      simp only [toldV]
      go_wp2_with fail
      refine (refSub_any a b _).mono ?_
      rintro e w5 ⟨rfl, hb5⟩
      simp only [toldV]
      have hB5 := since_next (since_next (since_next (since_next hb1 hb2) hb3) hb4) hb5
      go_wp2_with fail
      refine (sum_any a1 n1 c1 l _ (h1.out.below hB5)).mono ?_
      rintro e w6 ⟨rfl, hb6⟩
      simp only [toldV]
      have hB6 := since_next hB5 hb6
      go_wp2_with fail
      refine (refSum_any a1 n1 c1 l _ (h1.out.below hB6)).mono ?_
      rintro e w7 ⟨rfl, hb7⟩
      simp only [toldV]
      have hB7 := since_next hB6 hb7
      go_wp2_with fail
      refine (fee_any a1 a2 n1 c1 n2 c2 l m a _ ha.out (h1.out.below hB7) (h2.out.below hB7)).mono ?_
      rintro e w8 ⟨rfl, hb8⟩
      simp only [toldV]
      have hB8 := since_next hB7 hb8
      go_wp2_with fail
      refine (refFee_any a1 a2 n1 c1 n2 c2 l m a _ ha.out (h1.out.below hB8) (h2.out.below hB8)).mono ?_
      rintro e w9 ⟨rfl, hb9⟩
      simp only [toldV]
      have hB9 := since_next hB8 hb9
      clear hB5 hB6 hB7 hB8
      go_wp2_with fail
      refine (M1.out _).mono ?_
      rintro e w10 ⟨rfl, rfl⟩
      go_wp2_with fail
      refine (M2.out _).mono ?_
      rintro e w11 ⟨rfl, rfl⟩
      go_wp2
      go_ret
      exact gives_bool rfl hB9

theorem sureO_zero : sureO 0 = some 0 := by unfold sureO; rfl
theorem addedO_one (a : Int) : addedO [a] = sureO a := by
  unfold addedO
  show (addO 0 a).bind some = _
  unfold addO
  cases h : sureO a with
  | none => rfl
  | some x =>
    obtain ⟨rfl, hx⟩ := sureO_some h
    show (sureO (0 + x)).bind some = _
    rw [Int.zero_add, h]; rfl
theorem addV_zero (a : Int) : addV a 0 = sureO a := by
  rw [addV_eq]
  cases h : sureO a with
  | none => rfl
  | some x =>
    obtain ⟨rfl, hx⟩ := sureO_some h
    show (sureO 0).bind (fun b => sureO (x + b)) = _
    rw [sureO_zero]
    show sureO (x + 0) = _
    rw [Int.add_zero, h]
theorem zero_addV (a : Int) : addV 0 a = sureO a := by
  rw [addV_eq, sureO_zero]
  cases h : sureO a with
  | none => rfl
  | some x => obtain ⟨rfl, hx⟩ := sureO_some h; show sureO (0 + x) = _; rw [Int.zero_add, h]
theorem lessO_zero (a : Int) : lessO a 0 = sureO a := by
  unfold lessO
  cases h : sureO a with
  | none => rfl
  | some x =>
    obtain ⟨rfl, hx⟩ := sureO_some h
    show (sureO 0).bind (fun b => sureO (x - b)) = _
    rw [sureO_zero]
    show sureO (x - 0) = _
    rw [Int.sub_zero, h]
theorem feeO_in (a : Int) : feeO [a] [] 0 = sureO a := by
  unfold feeO
  rw [addedO_one]
  cases h : sureO a with
  | none => rfl
  | some x =>
    obtain ⟨rfl, hx⟩ := sureO_some h
    show (addedO [x, 0]).bind (fun s => lessO s 0) = _
    rw [show addedO [x, 0] = addV x 0 from rfl, addV_zero, h]
    show lessO x 0 = _
    rw [lessO_zero, h]
theorem feeO_out (a : Int) : (feeO [2100000000000000] [a] 0).isSome = (sureO a).isSome := by
  unfold feeO
  rw [addedO_one, addedO_one]
  have hM : sureO 2100000000000000 = some 2100000000000000 := by unfold sureO; rfl
  rw [hM]
  cases h : sureO a with
  | none => rfl
  | some x =>
    obtain ⟨rfl, hx⟩ := sureO_some h
    show ((addedO [2100000000000000, 0]).bind (fun s => lessO s x)).isSome = true
    rw [show addedO [2100000000000000, 0] = addV 2100000000000000 0 from rfl, addV_zero, hM]
    show (lessO 2100000000000000 x).isSome = true
    unfold lessO
    rw [hM, h]
    show (sureO (2100000000000000 - x)).isSome = true
    unfold sureO
    rw [if_pos (by omega)]; rfl
theorem feeO_bal {b : Int} (hb : I64 b) : feeO [] [] b = sureO b := by
  unfold feeO
  show (if 0 ≤ b then (addedO [0, b]).bind fun s => lessO s 0 else (addedO [0, negV b]).bind fun s => lessO 0 s) = _
  by_cases h : 0 ≤ b
  · rw [if_pos h, show addedO [0, b] = addV 0 b from rfl, zero_addV]
    cases h1 : sureO b with
    | none => rfl
    | some x => obtain ⟨rfl, hx⟩ := sureO_some h1; show lessO x 0 = _; rw [lessO_zero, h1]
  · have hn : sureO b = none := by unfold sureO; rw [if_neg (by omega)]
    rw [if_neg h, show addedO [0, negV b] = addV 0 (negV b) from rfl, zero_addV, hn]
    cases h1 : sureO (negV b) with
    | none => rfl
    | some x =>
      obtain ⟨rfl, hx⟩ := sureO_some h1
      show lessO 0 (negV b) = none
      unfold lessO
      rw [sureO_zero, h1]
      show sureO (0 - negV b) = none
      unfold I64 at hb
      unfold sureO
      rw [if_neg]
      unfold negV wrap64 at *
      omega
theorem errN_ok (o : Option Int) : (errN o == 0) = o.isSome := by
  cases o with
  | none => rw [errN_none]; rfl
  | some n => rw [errN_some]; rfl
theorem IL.none (w : World) : IL w none 0 0 [] := ⟨⟨rfl, Nat.le_refl _, by unfold maxLen; omega, fun _ => rfl, fun h => absurd rfl h⟩, by simp⟩

set_option maxHeartbeats 4000000 in
theorem moneyRange_walk (a b : Int) (W : World) (ha : I64 a) (hb : I64 b) : Calls Try.prog 8 #[.int .i64 a, .int .i64 b] W (LawEnd W) := by
  have fb := Box.mk (feeO_bal hb)
  replace ha := Box.mk ha
  replace hb := Box.mk hb
  have fo := feeO_out a
  obtain ⟨o1, ho1⟩ : ∃ o, o = feeO [2100000000000000] [a] 0 := ⟨_, rfl⟩
  rw [← ho1] at fo
  replace ho1 := Box.mk ho1
  have M1 := fun w => may_any a w ha.out
  have M2 := fun w => may_any b w hb.out
  simp only [may_at] at M1 M2
  cases ea : sureO a with
  | none =>
    have hn := sureO_none ea
    rw [ea] at fo
    have fo' : o1 = none := by cases o1 with | none => rfl | some z => cases fo
    replace fo := Box.mk fo'
    clear fo'
    simp only [ea, Option.isSome_none] at M1
    replace M1 := Box.mk M1
    replace ea := Box.mk ea
    by_cases h0 : 0 ≤ a
    · have h1 : ¬ a ≤ 2100000000000000 := by omega
      clear hn
      cases eb : sureO b with
      | none =>
        simp only [eb, Option.isSome_none] at M2
        replace M2 := Box.mk M2
        replace eb := Box.mk eb
        go_enter Try.func8, Try.ntmps8
        go_wp2_with fail
        refine (add_any a 0 _ ha.out (by unfold I64; omega)).mono ?_
        rintro e w1 ⟨rfl, hb1⟩
        rw [addV_zero, ea.out]
        simp only [toldV, valN_none, errN_none]
        go_wp2_with fail
        refine (sub_any a 0 _ ha.out (by unfold I64; omega)).mono ?_
        rintro e w2 ⟨rfl, hb2⟩
        rw [lessO_zero, ea.out]
        simp only [toldV, valN_none, errN_none]
        have hB2 := since_next hb1 hb2
        go_wp2_with fail
        refine (sum_any _ 1 1 [a] _ (IL.new w2 [a] _ _ _ rfl (rows_i1 _).symm (by simp) (by simp; exact ha.out))).mono ?_
        rintro e w3 ⟨rfl, hb3⟩
        rw [addedO_one, ea.out]
        simp only [toldV, valN_none, errN_none]
        have hB3 := since_next (hB2.alloc hB2.size (.cells #[.int .i64 a] 2)) hb3
        go_wp2_with fail
        refine (fee_any _ none 1 1 0 0 [a] [] 0 _ (by unfold I64; omega) (IL.new w3 [a] _ _ _ rfl (rows_i1 _).symm (by simp) (by simp; exact ha.out)) (IL.none _)).mono ?_
        rintro e w4 ⟨rfl, hb4⟩
        rw [feeO_in, ea.out]
        simp only [toldV, valN_none, errN_none]
        have hB4 := since_next (hB3.alloc hB3.size (.cells #[.int .i64 a] 2)) hb4
        go_wp2_with fail
        refine (fee_any _ _ 1 1 1 1 [2100000000000000] [a] 0 _ (by unfold I64; omega) ((IL.new w4 [2100000000000000] _ _ _ rfl (rows_i1 _).symm (by simp) (by simp [I64])).below ((Below.refl _ _).alloc (Nat.le_refl _) _)) (IL.new _ [a] _ _ _ (by simp) (rows_i1 _).symm (by simp) (by simp; exact ha.out))).mono ?_
        rintro e w5 ⟨rfl, hb5⟩
        rw [← ho1.out, fo.out]
        simp only [toldV, valN_none, errN_none]
        have hB5 := since_next ((hB4.alloc hB4.size (.cells #[.int .i64 2100000000000000] 2)).alloc (Nat.le_trans hB4.size (by simp)) (.cells #[.int .i64 a] 2)) hb5
        go_wp2_with fail
        refine (fee_any none none 0 0 0 0 [] [] b _ hb.out (IL.none _) (IL.none _)).mono ?_
        rintro e w6 ⟨rfl, hb6⟩
        rw [fb.out, eb.out]
        simp only [toldV, valN_none, errN_none]
        have hB6 := since_next hB5 hb6
        clear hB2 hB3 hB4 hB5
        go_wp2_with fail
        refine (M1.out _).mono ?_
        rintro e w7 ⟨rfl, rfl⟩
        go_wp2_with fail
        refine (M2.out _).mono ?_
        rintro e w8 ⟨rfl, rfl⟩
        go_wp2_with fail
        refine (shown02 _).mono ?_
        rintro e w9 ⟨rfl, hb9⟩
        go_wp2
        go_ret
        exact gives_bool rfl (since_next hB6 hb9)
      | some y =>
        obtain ⟨rfl, hy⟩ := sureO_some eb
        simp only [eb, Option.isSome_some] at M2
        replace M2 := Box.mk M2
        replace eb := Box.mk eb
        go_enter Try.func8, Try.ntmps8
        go_wp2_with fail
        refine (add_any a 0 _ ha.out (by unfold I64; omega)).mono ?_
        rintro e w1 ⟨rfl, hb1⟩
        rw [addV_zero, ea.out]
        simp only [toldV, valN_none, errN_none]
        go_wp2_with fail
        refine (sub_any a 0 _ ha.out (by unfold I64; omega)).mono ?_
        rintro e w2 ⟨rfl, hb2⟩
        rw [lessO_zero, ea.out]
        simp only [toldV, valN_none, errN_none]
        have hB2 := since_next hb1 hb2
        go_wp2_with fail
        refine (sum_any _ 1 1 [a] _ (IL.new w2 [a] _ _ _ rfl (rows_i1 _).symm (by simp) (by simp; exact ha.out))).mono ?_
        rintro e w3 ⟨rfl, hb3⟩
        rw [addedO_one, ea.out]
        simp only [toldV, valN_none, errN_none]
        have hB3 := since_next (hB2.alloc hB2.size (.cells #[.int .i64 a] 2)) hb3
        go_wp2_with fail
        refine (fee_any _ none 1 1 0 0 [a] [] 0 _ (by unfold I64; omega) (IL.new w3 [a] _ _ _ rfl (rows_i1 _).symm (by simp) (by simp; exact ha.out)) (IL.none _)).mono ?_
        rintro e w4 ⟨rfl, hb4⟩
        rw [feeO_in, ea.out]
        simp only [toldV, valN_none, errN_none]
        have hB4 := since_next (hB3.alloc hB3.size (.cells #[.int .i64 a] 2)) hb4
        go_wp2_with fail
        refine (fee_any _ _ 1 1 1 1 [2100000000000000] [a] 0 _ (by unfold I64; omega) ((IL.new w4 [2100000000000000] _ _ _ rfl (rows_i1 _).symm (by simp) (by simp [I64])).below ((Below.refl _ _).alloc (Nat.le_refl _) _)) (IL.new _ [a] _ _ _ (by simp) (rows_i1 _).symm (by simp) (by simp; exact ha.out))).mono ?_
        rintro e w5 ⟨rfl, hb5⟩
        rw [← ho1.out, fo.out]
        simp only [toldV, valN_none, errN_none]
        have hB5 := since_next ((hB4.alloc hB4.size (.cells #[.int .i64 2100000000000000] 2)).alloc (Nat.le_trans hB4.size (by simp)) (.cells #[.int .i64 a] 2)) hb5
        go_wp2_with fail
        refine (fee_any none none 0 0 0 0 [] [] y _ hb.out (IL.none _) (IL.none _)).mono ?_
        rintro e w6 ⟨rfl, hb6⟩
        rw [fb.out, eb.out]
        simp only [toldV, valN_some, errN_some]
        have hB6 := since_next hB5 hb6
        clear hB2 hB3 hB4 hB5
        go_wp2_with fail
        refine (M1.out _).mono ?_
        rintro e w7 ⟨rfl, rfl⟩
        go_wp2_with fail
        refine (M2.out _).mono ?_
        rintro e w8 ⟨rfl, rfl⟩
        go_wp2_with fail
        refine (shown02 _).mono ?_
        rintro e w9 ⟨rfl, hb9⟩
        go_wp2
        go_ret
        exact gives_bool rfl (since_next hB6 hb9)
    · clear hn
      cases eb : sureO b with
      | none =>
        simp only [eb, Option.isSome_none] at M2
        replace M2 := Box.mk M2
        replace eb := Box.mk eb
        go_enter Try.func8, Try.ntmps8
        go_wp2_with fail
        refine (add_any a 0 _ ha.out (by unfold I64; omega)).mono ?_
        rintro e w1 ⟨rfl, hb1⟩
        rw [addV_zero, ea.out]
        simp only [toldV, valN_none, errN_none]
        go_wp2_with fail
        refine (sub_any a 0 _ ha.out (by unfold I64; omega)).mono ?_
        rintro e w2 ⟨rfl, hb2⟩
        rw [lessO_zero, ea.out]
        simp only [toldV, valN_none, errN_none]
        have hB2 := since_next hb1 hb2
        go_wp2_with fail
        refine (sum_any _ 1 1 [a] _ (IL.new w2 [a] _ _ _ rfl (rows_i1 _).symm (by simp) (by simp; exact ha.out))).mono ?_
        rintro e w3 ⟨rfl, hb3⟩
        rw [addedO_one, ea.out]
        simp only [toldV, valN_none, errN_none]
        have hB3 := since_next (hB2.alloc hB2.size (.cells #[.int .i64 a] 2)) hb3
        go_wp2_with fail
        refine (fee_any _ none 1 1 0 0 [a] [] 0 _ (by unfold I64; omega) (IL.new w3 [a] _ _ _ rfl (rows_i1 _).symm (by simp) (by simp; exact ha.out)) (IL.none _)).mono ?_
        rintro e w4 ⟨rfl, hb4⟩
        rw [feeO_in, ea.out]
        simp only [toldV, valN_none, errN_none]
        have hB4 := since_next (hB3.alloc hB3.size (.cells #[.int .i64 a] 2)) hb4
        go_wp2_with fail
        refine (fee_any _ _ 1 1 1 1 [2100000000000000] [a] 0 _ (by unfold I64; omega) ((IL.new w4 [2100000000000000] _ _ _ rfl (rows_i1 _).symm (by simp) (by simp [I64])).below ((Below.refl _ _).alloc (Nat.le_refl _) _)) (IL.new _ [a] _ _ _ (by simp) (rows_i1 _).symm (by simp) (by simp; exact ha.out))).mono ?_
        rintro e w5 ⟨rfl, hb5⟩
        rw [← ho1.out, fo.out]
        simp only [toldV, valN_none, errN_none]
        have hB5 := since_next ((hB4.alloc hB4.size (.cells #[.int .i64 2100000000000000] 2)).alloc (Nat.le_trans hB4.size (by simp)) (.cells #[.int .i64 a] 2)) hb5
        go_wp2_with fail
        refine (fee_any none none 0 0 0 0 [] [] b _ hb.out (IL.none _) (IL.none _)).mono ?_
        rintro e w6 ⟨rfl, hb6⟩
        rw [fb.out, eb.out]
        simp only [toldV, valN_none, errN_none]
        have hB6 := since_next hB5 hb6
        clear hB2 hB3 hB4 hB5
        go_wp2_with fail
        refine (M1.out _).mono ?_
        rintro e w7 ⟨rfl, rfl⟩
        go_wp2_with fail
        refine (M2.out _).mono ?_
        rintro e w8 ⟨rfl, rfl⟩
        go_wp2_with fail
        refine (shown02 _).mono ?_
        rintro e w9 ⟨rfl, hb9⟩
        go_wp2
        go_ret
        exact gives_bool rfl (since_next hB6 hb9)
      | some y =>
        obtain ⟨rfl, hy⟩ := sureO_some eb
        simp only [eb, Option.isSome_some] at M2
        replace M2 := Box.mk M2
        replace eb := Box.mk eb
        go_enter Try.func8, Try.ntmps8
        go_wp2_with fail
        refine (add_any a 0 _ ha.out (by unfold I64; omega)).mono ?_
        rintro e w1 ⟨rfl, hb1⟩
        rw [addV_zero, ea.out]
        simp only [toldV, valN_none, errN_none]
        go_wp2_with fail
        refine (sub_any a 0 _ ha.out (by unfold I64; omega)).mono ?_
        rintro e w2 ⟨rfl, hb2⟩
        rw [lessO_zero, ea.out]
        simp only [toldV, valN_none, errN_none]
        have hB2 := since_next hb1 hb2
        go_wp2_with fail
        refine (sum_any _ 1 1 [a] _ (IL.new w2 [a] _ _ _ rfl (rows_i1 _).symm (by simp) (by simp; exact ha.out))).mono ?_
        rintro e w3 ⟨rfl, hb3⟩
        rw [addedO_one, ea.out]
        simp only [toldV, valN_none, errN_none]
        have hB3 := since_next (hB2.alloc hB2.size (.cells #[.int .i64 a] 2)) hb3
        go_wp2_with fail
        refine (fee_any _ none 1 1 0 0 [a] [] 0 _ (by unfold I64; omega) (IL.new w3 [a] _ _ _ rfl (rows_i1 _).symm (by simp) (by simp; exact ha.out)) (IL.none _)).mono ?_
        rintro e w4 ⟨rfl, hb4⟩
        rw [feeO_in, ea.out]
        simp only [toldV, valN_none, errN_none]
        have hB4 := since_next (hB3.alloc hB3.size (.cells #[.int .i64 a] 2)) hb4
        go_wp2_with fail
        refine (fee_any _ _ 1 1 1 1 [2100000000000000] [a] 0 _ (by unfold I64; omega) ((IL.new w4 [2100000000000000] _ _ _ rfl (rows_i1 _).symm (by simp) (by simp [I64])).below ((Below.refl _ _).alloc (Nat.le_refl _) _)) (IL.new _ [a] _ _ _ (by simp) (rows_i1 _).symm (by simp) (by simp; exact ha.out))).mono ?_
        rintro e w5 ⟨rfl, hb5⟩
        rw [← ho1.out, fo.out]
        simp only [toldV, valN_none, errN_none]
        have hB5 := since_next ((hB4.alloc hB4.size (.cells #[.int .i64 2100000000000000] 2)).alloc (Nat.le_trans hB4.size (by simp)) (.cells #[.int .i64 a] 2)) hb5
        go_wp2_with fail
        refine (fee_any none none 0 0 0 0 [] [] y _ hb.out (IL.none _) (IL.none _)).mono ?_
        rintro e w6 ⟨rfl, hb6⟩
        rw [fb.out, eb.out]
        simp only [toldV, valN_some, errN_some]
        have hB6 := since_next hB5 hb6
        clear hB2 hB3 hB4 hB5
        go_wp2_with fail
        refine (M1.out _).mono ?_
        rintro e w7 ⟨rfl, rfl⟩
        go_wp2_with fail
        refine (M2.out _).mono ?_
        rintro e w8 ⟨rfl, rfl⟩
        go_wp2_with fail
        refine (shown02 _).mono ?_
        rintro e w9 ⟨rfl, hb9⟩
        go_wp2
        go_ret
        exact gives_bool rfl (since_next hB6 hb9)
  | some x =>
    obtain ⟨rfl, h0, h1⟩ := sureO_some ea
    rw [ea] at fo
    obtain ⟨z, fo'⟩ : ∃ z, o1 = some z := by cases o1 with | none => cases fo | some z => exact ⟨z, rfl⟩
    replace fo := Box.mk fo'
    clear fo'
    simp only [ea, Option.isSome_some] at M1
    replace M1 := Box.mk M1
    replace ea := Box.mk ea
    cases eb : sureO b with
    | none =>
      simp only [eb, Option.isSome_none] at M2
      replace M2 := Box.mk M2
      replace eb := Box.mk eb
      go_enter Try.func8, Try.ntmps8
      go_wp2_with fail
      refine (add_any x 0 _ ha.out (by unfold I64; omega)).mono ?_
      rintro e w1 ⟨rfl, hb1⟩
      rw [addV_zero, ea.out]
      simp only [toldV, valN_some, errN_some]
      go_wp2_with fail
      refine (sub_any x 0 _ ha.out (by unfold I64; omega)).mono ?_
      rintro e w2 ⟨rfl, hb2⟩
      rw [lessO_zero, ea.out]
      simp only [toldV, valN_some, errN_some]
      have hB2 := since_next hb1 hb2
      go_wp2_with fail
      refine (sum_any _ 1 1 [x] _ (IL.new w2 [x] _ _ _ rfl (rows_i1 _).symm (by simp) (by simp; exact ha.out))).mono ?_
      rintro e w3 ⟨rfl, hb3⟩
      rw [addedO_one, ea.out]
      simp only [toldV, valN_some, errN_some]
      have hB3 := since_next (hB2.alloc hB2.size (.cells #[.int .i64 x] 2)) hb3
      go_wp2_with fail
      refine (fee_any _ none 1 1 0 0 [x] [] 0 _ (by unfold I64; omega) (IL.new w3 [x] _ _ _ rfl (rows_i1 _).symm (by simp) (by simp; exact ha.out)) (IL.none _)).mono ?_
      rintro e w4 ⟨rfl, hb4⟩
      rw [feeO_in, ea.out]
      simp only [toldV, valN_some, errN_some]
      have hB4 := since_next (hB3.alloc hB3.size (.cells #[.int .i64 x] 2)) hb4
      go_wp2_with fail
      refine (fee_any _ _ 1 1 1 1 [2100000000000000] [x] 0 _ (by unfold I64; omega) ((IL.new w4 [2100000000000000] _ _ _ rfl (rows_i1 _).symm (by simp) (by simp [I64])).below ((Below.refl _ _).alloc (Nat.le_refl _) _)) (IL.new _ [x] _ _ _ (by simp) (rows_i1 _).symm (by simp) (by simp; exact ha.out))).mono ?_
      rintro e w5 ⟨rfl, hb5⟩
      rw [← ho1.out, fo.out]
      simp only [toldV, valN_some, errN_some]
      have hB5 := since_next ((hB4.alloc hB4.size (.cells #[.int .i64 2100000000000000] 2)).alloc (Nat.le_trans hB4.size (by simp)) (.cells #[.int .i64 x] 2)) hb5
      go_wp2_with fail
      refine (fee_any none none 0 0 0 0 [] [] b _ hb.out (IL.none _) (IL.none _)).mono ?_
      rintro e w6 ⟨rfl, hb6⟩
      rw [fb.out, eb.out]
      simp only [toldV, valN_none, errN_none]
      have hB6 := since_next hB5 hb6
      clear hB2 hB3 hB4 hB5
      go_wp2_with fail
      refine (M1.out _).mono ?_
      rintro e w7 ⟨rfl, rfl⟩
      go_wp2_with fail
      refine (M2.out _).mono ?_
      rintro e w8 ⟨rfl, rfl⟩
      go_wp2_with fail
      refine (shown02 _).mono ?_
      rintro e w9 ⟨rfl, hb9⟩
      go_wp2
      go_ret
      exact gives_bool rfl (since_next hB6 hb9)
    | some y =>
      obtain ⟨rfl, hy⟩ := sureO_some eb
      simp only [eb, Option.isSome_some] at M2
      replace M2 := Box.mk M2
      replace eb := Box.mk eb
      go_enter Try.func8, Try.ntmps8
      go_wp2_with fail
      refine (add_any x 0 _ ha.out (by unfold I64; omega)).mono ?_
      rintro e w1 ⟨rfl, hb1⟩
      rw [addV_zero, ea.out]
      simp only [toldV, valN_some, errN_some]
      go_wp2_with fail
      refine (sub_any x 0 _ ha.out (by unfold I64; omega)).mono ?_
      rintro e w2 ⟨rfl, hb2⟩
      rw [lessO_zero, ea.out]
      simp only [toldV, valN_some, errN_some]
      have hB2 := since_next hb1 hb2
      go_wp2_with fail
      refine (sum_any _ 1 1 [x] _ (IL.new w2 [x] _ _ _ rfl (rows_i1 _).symm (by simp) (by simp; exact ha.out))).mono ?_
      rintro e w3 ⟨rfl, hb3⟩
      rw [addedO_one, ea.out]
      simp only [toldV, valN_some, errN_some]
      have hB3 := since_next (hB2.alloc hB2.size (.cells #[.int .i64 x] 2)) hb3
      go_wp2_with fail
      refine (fee_any _ none 1 1 0 0 [x] [] 0 _ (by unfold I64; omega) (IL.new w3 [x] _ _ _ rfl (rows_i1 _).symm (by simp) (by simp; exact ha.out)) (IL.none _)).mono ?_
      rintro e w4 ⟨rfl, hb4⟩
      rw [feeO_in, ea.out]
      simp only [toldV, valN_some, errN_some]
      have hB4 := since_next (hB3.alloc hB3.size (.cells #[.int .i64 x] 2)) hb4
      go_wp2_with fail
      refine (fee_any _ _ 1 1 1 1 [2100000000000000] [x] 0 _ (by unfold I64; omega) ((IL.new w4 [2100000000000000] _ _ _ rfl (rows_i1 _).symm (by simp) (by simp [I64])).below ((Below.refl _ _).alloc (Nat.le_refl _) _)) (IL.new _ [x] _ _ _ (by simp) (rows_i1 _).symm (by simp) (by simp; exact ha.out))).mono ?_
      rintro e w5 ⟨rfl, hb5⟩
      rw [← ho1.out, fo.out]
      simp only [toldV, valN_some, errN_some]
      have hB5 := since_next ((hB4.alloc hB4.size (.cells #[.int .i64 2100000000000000] 2)).alloc (Nat.le_trans hB4.size (by simp)) (.cells #[.int .i64 x] 2)) hb5
      go_wp2_with fail
      refine (fee_any none none 0 0 0 0 [] [] y _ hb.out (IL.none _) (IL.none _)).mono ?_
      rintro e w6 ⟨rfl, hb6⟩
      rw [fb.out, eb.out]
      simp only [toldV, valN_some, errN_some]
      have hB6 := since_next hB5 hb6
      clear hB2 hB3 hB4 hB5
      go_wp2_with fail
      refine (M1.out _).mono ?_
      rintro e w7 ⟨rfl, rfl⟩
      go_wp2_with fail
      refine (M2.out _).mono ?_
      rintro e w8 ⟨rfl, rfl⟩
      go_wp2_with fail
      refine (shown02 _).mono ?_
      rintro e w9 ⟨rfl, hb9⟩
      go_wp2
      go_ret
      exact gives_bool rfl (since_next hB6 hb9)

end Go.Proofs.Ytghjpbmemogioaa
