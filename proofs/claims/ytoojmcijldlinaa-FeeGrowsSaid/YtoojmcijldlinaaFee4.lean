/- Layer 13: the reference's contracts, more; the laws' own 'shown'. -/
import Derived.Test.YtoojmcijldlinaaFee3
namespace Go.Proofs.Ytoojmcijldlinaa
open Go.RowKit
set_option linter.unusedVariables false
set_option linter.unusedSimpArgs false

theorem build12_slices (a : Option Addr) (l c : Nat) (a' : Option Addr) (l' c' : Nat) (w : World) :
    (Instr.build 35 #[(1, .slice a l c), (2, .slice a' l' c')]).run Try.prog w = .ok (.agg (txC { zeroTx with ins := ⟨a, l, c⟩, outs := ⟨a', l', c'⟩ }).toArray) w := by kernel_rfl
noncomputable def slowB12 (w : World) (u v : Value) : Result Next := (do pure (.value (← Instr.build 35 #[(1, u), (2, v)])) : Sem Next).run Try.prog w
noncomputable def built12 (w : World) : Value → Value → Result Next
  | .slice a l c, .slice a' l' c' => .ok (.value (.agg (txC { zeroTx with ins := ⟨a, l, c⟩, outs := ⟨a', l', c'⟩ }).toArray)) w
  | u, v => slowB12 w u v
@[go_sem] theorem built12_slices (w : World) (a : Option Addr) (l c : Nat) (a' : Option Addr) (l' c' : Nat) :
    built12 w (.slice a l c) (.slice a' l' c') = .ok (.value (.agg (txC { zeroTx with ins := ⟨a, l, c⟩, outs := ⟨a', l', c'⟩ }).toArray)) w := rfl
theorem build_tx12 (ρ : Operand → Value) (dst : Option Tmp) (x y : Operand) (t : TypeId) (pos : String) (after : Array Edge) (guard : Option (Nat × Bool)) (w : World) :
    (execOp ρ ⟨dst, .build 35 #[(1, x), (2, y)], t, pos, after, guard⟩).run Try.prog w = built12 w (ρ x) (ρ y) := by
  have hs : (execOp ρ ⟨dst, .build 35 #[(1, x), (2, y)], t, pos, after, guard⟩).run Try.prog w = slowB12 w (ρ x) (ρ y) := by simp [execOp, slowB12]
  rw [hs]
  unfold built12
  split
  · rename_i h1 h2
    rw [h1, h2]
    simp only [slowB12, Sem.run_bind, build12_slices]
    rfl
  · rfl

attribute [local go_sem ↓] load_tx store_tx alloc_tx build0_tx build0_point build0_out one_point one_out build_tx12
attribute [local go_sem] rowOf_drew rowOf_alloc_old rowOf_alloc_new canPut_drew canPut_alloc_old canPut_alloc_new setCells_alloc_new

set_option maxHeartbeats 400000 in
theorem runpaid_any (t : TxV) (fee : Int) (w : World) (h : Small t) :
    Calls Try.prog 30 #[.agg (txC t).toArray, .int .i64 fee] w (Gives (.int .i64 (max (dueN t - heldN fee / 5000) 0)) w) := by
  have ha := act_bounds h
  have hd : dueN t = max (actN t) 2 := rfl
  have Hd := Lib.hid hd
  clear hd
  have hh := held_bounds fee
  go_enter Try.func30, Try.ntmps30
  go_wp2_with fail
  refine (ractions_any t _ h).mono ?_
  rintro e w1 ⟨rfl, hb1⟩
  go_wp2_with fail
  all_goals
    refine (rheld_any _ _).mono ?_
    rintro e w2 ⟨rfl, rfl⟩
    go_wp2_with fail
    all_goals
      go_ret
      exact gives_int (by rw [Hd.out]; omega) (((Below.refl _ _).alloc (by simp) _).trans (hb1.mono (by simp)))

set_option maxHeartbeats 1000000 in
theorem rweight_any (t : TxV) (fee : Int) (w : World) (h : Small t) :
    Calls Try.prog 31 #[.agg (txC t).toArray, .int .i64 fee] w (Gives (.int .i64 (weightN t fee)) w) := by
  obtain ⟨d, hd⟩ : ∃ d, d = dueN t := ⟨_, rfl⟩
  have ha := due_bounds h
  rw [← hd] at ha
  have Hd := Lib.hid hd
  clear hd
  obtain ⟨n, hn⟩ : ∃ n, n = max (min fee (4 * (d * 5000))) 0 := ⟨_, rfl⟩
  have hn0 : 0 ≤ n ∧ n ≤ 4 * (d * 5000) := by omega
  obtain ⟨m, hm⟩ : ∃ m, m = heldN fee := ⟨_, rfl⟩
  have hm0 : n = min m (4 * (d * 5000)) := by rw [hm]; unfold heldN; omega
  have hm1 : 0 ≤ m ∧ m ≤ 2100000000000000 := by rw [hm]; exact held_bounds fee
  have Hn := Lib.hid hn
  have Hm := Lib.hid hm
  have Hm0 := Lib.hid hm0
  clear hn hm hm0
  by_cases hlt : 4 * (d * 5000) < m
  · skip
    go_enter Try.func31, Try.ntmps31
    go_wp2_with fail
    refine (rconv_any t _ h).mono ?_
    rintro e w1 ⟨rfl, hb1⟩
    rw [← Hd.out]
    go_wp2_with fail
    refine (rheld_any _ _).mono ?_
    rintro e w2 ⟨rfl, rfl⟩
    rw [← Hm.out]
    go_wp2_with fail
    all_goals
      go_ret
      refine gives_int ?_ (((Below.refl _ _).alloc (by simp) _).trans (hb1.mono (by simp)))
      rw [weightN, ← Hd.out, ← Hn.out, Hm0.out, Int.min_eq_right (by omega)]
      omega
  · skip
    go_enter Try.func31, Try.ntmps31
    go_wp2_with fail
    refine (rconv_any t _ h).mono ?_
    rintro e w1 ⟨rfl, hb1⟩
    rw [← Hd.out]
    go_wp2_with fail
    refine (rheld_any _ _).mono ?_
    rintro e w2 ⟨rfl, rfl⟩
    rw [← Hm.out]
    go_wp2_with fail
    all_goals
      go_ret
      refine gives_int ?_ (((Below.refl _ _).alloc (by simp) _).trans (hb1.mono (by simp)))
      rw [weightN, ← Hd.out, ← Hn.out, Hm0.out, Int.min_eq_left (by omega)]
      omega

def shownT (a b : Option Addr) : TxV := { zeroTx with ins := ⟨a, 1, 1⟩, outs := ⟨b, 1, 1⟩ }
theorem shownT_is (a b : Option Addr) : Small (shownT a b) ∧ actN (shownT a b) = 1 ∧ dueN (shownT a b) = 2 ∧ weightN (shownT a b) 10000 = 65536 := by
  refine ⟨?_, ?_, ?_, ?_⟩ <;> simp [Small, weightN, dueN, actN, shownT, zeroTx, Sl.nil] <;> decide

set_option maxHeartbeats 1000000 in
theorem shown13 (w : World) :
    Calls Try.prog 17 #[] w (Gives (.bool true) w) := by
  go_enter Try.func17, Try.ntmps17
  go_wp2_with fail
  obtain ⟨T, hT⟩ : ∃ T, T = shownT (some ⟨w.heap.size, 0, none⟩) (some ⟨w.heap.size + 1, 0, none⟩) := ⟨_, rfl⟩
  have hT' := hT
  unfold shownT at hT'
  rw [← hT']
  obtain ⟨hS, hA, hD, hWt⟩ := shownT_is (some ⟨w.heap.size, 0, none⟩) (some ⟨w.heap.size + 1, 0, none⟩)
  rw [← hT] at hS hA hD hWt
  have HA := Lib.hid hA
  have HD := Lib.hid hD
  have HW := Lib.hid hWt
  clear hT hT' hA hD hWt
  refine (conv_any T _ hS).mono ?_
  rintro e w1 ⟨rfl, hb1⟩
  rw [HD.out]
  obtain ⟨hc, hf, hr, hh⟩ := bcell hb1
  go_wp2_with fail
  refine (actions_any T _ hS.1 hS.2.1 hS.2.2.1 hS.2.2.2).mono ?_
  rintro e w2 ⟨rfl, hb2⟩
  rw [HA.out]
  have hs1 : w.heap.size + 3 ≤ w1.heap.size := by have := hb1.size; simp at this; omega
  have hr2 : rowOf w2 (w.heap.size + 1 + 1) 0 38 = rowOf w1 (w.heap.size + 1 + 1) 0 38 := (bcell hb2).2.2.1 _ _ _ (by omega)
  go_wp2_with fail
  refine (weight_any T _ _ hS).mono ?_
  rintro e w3 ⟨rfl, hb3⟩
  rw [HW.out]
  go_wp2_with fail
  go_ret
  exact gives_bool rfl (Below.of hb3 (by have := hb2.size; omega) (Below.of hb2 (by omega) (Below.of hb1 (by simp <;> omega) ((((Below.refl _ _).alloc (by simp) _).alloc (by simp <;> omega) _).alloc (by simp <;> omega) _))))

end Go.Proofs.Ytoojmcijldlinaa
