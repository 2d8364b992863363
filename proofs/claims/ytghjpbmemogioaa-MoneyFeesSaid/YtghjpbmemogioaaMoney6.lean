/- The contracts of package money: Fee; the document's own May, Add, Sub, Sum. -/
import Derived.Test.YtghjpbmemogioaaMoney5
namespace Go.Proofs.Ytghjpbmemogioaa
open Go.RowKit
set_option linter.unusedVariables false
set_option linter.unusedSimpArgs false

set_option maxHeartbeats 1000000 in
theorem fee_any (a1 a2 : Option Addr) (n1 c1 n2 c2 : Nat) (l m : List Int) (bal : Int) (w : World) (hb : I64 bal) (h1 : IL w a1 n1 c1 l) (h2 : IL w a2 n2 c2 m) :
    Calls Try.prog 17 #[.slice a1 n1 c1, .slice a2 n2 c2, .int .i64 bal] w (Gives (toldV (feeO l m bal)) w) := by
  have hmf : ∀ (fn : Fn) (first cap : Array Value) (w : World), (Instr.makeFunc fn first cap).run Try.prog w = .ok (.func fn first cap) w := fun _ _ _ _ => rfl
  have H1 := Box.mk h1
  have H2 := Box.mk h2
  have hb' := Box.mk hb
  clear h1 h2 hb
  go_enter Try.func17, Try.ntmps17
  go_wp2_with fail
  obtain ⟨w2, hw2⟩ : ∃ w2, w2 = ((w.alloc (.cells #[.slice a1 n1 c1] 22)).alloc (.cells #[.slice a2 n2 c2] 22)).alloc (.cells #[.int .i64 bal] 2) := ⟨_, rfl⟩
  have k1 : w2.cell? ⟨w.heap.size, 0, none⟩ = some (.slice a1 n1 c1) := by rw [hw2]; simp [go_sem]
  have k2 : w2.cell? ⟨w.heap.size + 1, 0, none⟩ = some (.slice a2 n2 c2) := by rw [hw2]; simp [go_sem]
  have k3 : w2.cell? ⟨w.heap.size + 1 + 1, 0, none⟩ = some (.int .i64 bal) := by rw [hw2]; simp [go_sem]
  have hb0 : Below w.heap.size w w2 := by rw [hw2]; exact (((Below.refl _ _).alloc (Nat.le_refl _) _).alloc (by simp) _).alloc (by simp; omega) _
  have hsz : w2.heap.size = w.heap.size + 3 := by rw [hw2]; simp
  rw [← hw2]
  replace hw2 := Box.mk hw2
  refine (told_any 39 _ (feeO l m bal) w2 (fun _ => rfl) (fun w' hw => feeC_any _ _ _ a1 a2 n1 c1 n2 c2 l m bal w' hb'.out
    (by rw [hw.cell (p := ⟨w.heap.size, 0, none⟩) (by show w.heap.size < _; omega)]; exact k1) (by rw [hw.cell (p := ⟨w.heap.size + 1, 0, none⟩) (by show w.heap.size + 1 < _; omega)]; exact k2) (by rw [hw.cell (p := ⟨w.heap.size + 1 + 1, 0, none⟩) (by show w.heap.size + 1 + 1 < _; omega)]; exact k3)
    ((H1.out.below hb0).below hw) ((H2.out.below hb0).below hw) (by have := hw.size; omega) (by have := hw.size; omega) (by have := hw.size; omega))).mono ?_
  rintro e w1 ⟨rfl, hb1⟩
  simp only [toldV]
  go_wp2
  refine bodyPost_ret (v := toldV (feeO l m bal)) (by simp [results, Try.results17, go_sem, toldV]) rfl ?_
  exact gives rfl (Below.of hb1 (by omega) hb0)

theorem refMay_any (a : Int) (w : World) : Calls Try.prog 23 #[.int .i64 a] w fun e w' => e = .returned (.bool (decide (0 ≤ a ∧ a ≤ 2100000000000000))) ∧ w' = w := by
  go_enter Try.func23, Try.ntmps23
  by_cases h0 : 0 ≤ a
  · by_cases h1 : a ≤ 2100000000000000
    · have e : decide (0 ≤ a ∧ a ≤ 2100000000000000) = true := by simp [h0, h1]
      rw [e]
      clear e
      go_wp2
      go_ret
      exact ⟨rfl, rfl⟩
    · have e : decide (0 ≤ a ∧ a ≤ 2100000000000000) = false := by simp [h0, h1]
      rw [e]
      clear e
      go_wp2
      go_ret
      exact ⟨rfl, rfl⟩
  · have e : decide (0 ≤ a ∧ a ≤ 2100000000000000) = false := by simp [h0]
    rw [e]
    clear e
    go_wp2
    go_ret
    exact ⟨rfl, rfl⟩
theorem may_at (a : Int) : decide (0 ≤ a ∧ a ≤ 2100000000000000) = (sureO a).isSome := by
  unfold sureO
  split <;> simp_all

theorem addV_eq (a b : Int) : addV a b = (sureO a).bind fun a => (sureO b).bind fun b => sureO (a + b) := by
  unfold addV addedO
  show (addO 0 a).bind (fun x => (addO x b).bind some) = _
  cases h : sureO a with
  | none => unfold addO; rw [h]; rfl
  | some x =>
    obtain ⟨rfl, hx⟩ := sureO_some h
    have e : addO 0 x = some x := by unfold addO; rw [h]; show sureO (0 + x) = some x; rw [Int.zero_add, h]
    rw [e]
    show (addO x b).bind some = _
    unfold addO
    cases sureO b with
    | none => rfl
    | some y => show (sureO (x + y)).bind some = sureO (x + y); cases sureO (x + y) <;> rfl

set_option maxHeartbeats 1000000 in
theorem refAdd_any (a b : Int) (w : World) : Calls Try.prog 18 #[.int .i64 a, .int .i64 b] w (Gives (toldV (addV a b)) w) := by
  go_enter Try.func18, Try.ntmps18
  go_wp2_with fail
  refine (refMay_any a w).mono ?_
  rw [may_at]
  rintro e w1 ⟨rfl, rfl⟩
  cases h1 : sureO a with
  | none =>
    have hA : addV a b = none := by rw [addV_eq, h1]; rfl
    rw [hA]
    simp only [Option.isSome_none]
    replace hA := Box.mk hA
    replace h1 := Box.mk h1
    go_wp2
    refine bodyPost_ret (v := toldV none) (by simp [results, Try.results18, go_sem, toldV, valN_none, errN_none]) rfl ?_
    exact gives (by rw [hA.out]) (Below.refl _ _)
  | some x =>
    obtain ⟨rfl, hx⟩ := sureO_some h1
    simp only [Option.isSome_some]
    go_wp2_with fail
    refine (refMay_any b w1).mono ?_
    rw [may_at]
    rintro e w2 ⟨rfl, rfl⟩
    cases h2 : sureO b with
    | none =>
      have hA : addV x b = none := by rw [addV_eq, h1, h2]; rfl
      simp only [Option.isSome_none]
      replace hA := Box.mk hA
      replace h1 := Box.mk h1
      replace h2 := Box.mk h2
      go_wp2
      refine bodyPost_ret (v := toldV none) (by simp [results, Try.results18, go_sem, toldV, valN_none, errN_none]) rfl ?_
      exact gives (by rw [hA.out]) (Below.refl _ _)
    | some y =>
      obtain ⟨rfl, hy⟩ := sureO_some h2
      simp only [Option.isSome_some]
      have hA : addV x y = sureO (x + y) := by rw [addV_eq, h1, h2]; rfl
      replace hA := Box.mk hA
      replace h1 := Box.mk h1
      replace h2 := Box.mk h2
      have hw : wrap64 (x + y) = x + y := by unfold wrap64; omega
      by_cases h3 : x + y ≤ 2100000000000000
      · have hS : sureO (x + y) = some (x + y) := by unfold sureO; rw [if_pos (by omega)]
        replace hS := Box.mk hS
        go_wp2
        refine bodyPost_ret (v := toldV (some (x + y))) (by simp [results, Try.results18, go_sem, toldV, valN_some, errN_some]) rfl ?_
        exact gives (by rw [hA.out, hS.out]) (Below.refl _ _)
      · have hS : sureO (x + y) = none := by unfold sureO; rw [if_neg (by omega)]
        replace hS := Box.mk hS
        go_wp2
        refine bodyPost_ret (v := toldV none) (by simp [results, Try.results18, go_sem, toldV, valN_none, errN_none]) rfl ?_
        exact gives (by rw [hA.out, hS.out]) (Below.refl _ _)

end Go.Proofs.Ytghjpbmemogioaa
