/- Package fee: Pays; the document's. -/
import Derived.Test.YtahkiabpjfcfdaaSince
import Derived.Deep.RegionWith
import Derived.Deep.DrawnRows
import Derived.Test.YtahkiabpjfcfdaaTx
import Derived.WalkSpells
import Derived.WalkLawsBesides
import Derived.Lib.Hide
import Derived.Deep.RegionHeld3
namespace Go.Proofs.Ytahkiabpjfcfdaa
set_option maxRecDepth 100000
open Go.RowKit
set_option linter.unusedVariables false
set_option linter.unusedSimpArgs false
attribute [local go_sem ↓] load_tx store_tx alloc_tx build0_tx
attribute [local go_sem] rowOf_drew rowOf_alloc_old rowOf_alloc_new

theorem ret_int {a b : Int} {w w' : World} (h : a = b) (hw : w = w') : Ending.returned (.int .i64 a) = .returned (.int .i64 b) ∧ w = w' := by subst h; exact ⟨rfl, hw⟩

def max2 (x y : Int) (k : Nat) : Int := if k = 0 then 0 else if k = 1 then x else max x y

set_option maxHeartbeats 400000 in
theorem most_two (b : Nat) (x y : Int) (w : World) (hx : w.cell? ⟨b, 0, none⟩ = some (.int .i64 x)) (hy : w.cell? ⟨b, 1, none⟩ = some (.int .i64 y)) (x0 : 0 ≤ x) (y0 : 0 ≤ y) :
    Calls Try.prog 118 #[.slice (some ⟨b, 0, none⟩) 2 2] w fun e w' => e = .returned (.int .i64 (max x y)) ∧ w = w' := by
  go_enter Try.func118, Try.ntmps118
  go_wp2
  go_loop [3, 5, 8] (fun n _ i => ∃ k : Nat, k ≤ 2 ∧ i = .int .i64 k ∧ n = .int .i64 (max2 x y k)) (fun _ _ i => 2 - (intOf i).toNat)
  case atStart => exact ⟨0, by omega, rfl, rfl⟩
  case round =>
    obtain ⟨k, hk, rfl, rfl⟩ := hrel
    have hc : k = 0 ∨ k = 1 ∨ k = 2 := by omega
    have h1 : max2 x y 1 = x := rfl
    have h2 : max2 x y 2 = max x y := rfl
    rcases hc with rfl | rfl | rfl
    · have h0 : max2 x y 0 = 0 := rfl
      go_wp2
      all_goals
        go_round
        case rel => exact ⟨1, by omega, rfl, by rw [h1]; first | rfl | (congr 1; omega)⟩
        case measure => simp [intOf]
    · go_wp2
      all_goals
        go_round
        case rel => exact ⟨2, by omega, rfl, by rw [h2]; first | (congr 1; omega) | simp⟩
        case measure => simp [intOf]
    · go_wp2
      go_ret
      exact ret_int rfl rfl

def actN (t : TxV) : Int := max (t.ins.len : Int) (t.outs.len : Int) + max (t.nulls.len : Int) (t.notes.len : Int)

set_option maxHeartbeats 400000 in
theorem actions_any (t : TxV) (w : World) (h1 : t.ins.len ≤ 1000000) (h2 : t.outs.len ≤ 1000000) (h3 : t.nulls.len ≤ 1000000) (h4 : t.notes.len ≤ 1000000) :
    Calls Try.prog 119 #[.agg (txC t).toArray] w (Gives (.int .i64 (actN t)) w) := by
  go_enter Try.func119, Try.ntmps119
  go_wp2
  go_region_held3 (fun w' => w'.cell? ⟨w.heap.size, 1, none⟩ = some (.slice t.ins.a t.ins.len t.ins.cap) ∧ w'.cell? ⟨w.heap.size, 2, none⟩ = some (.slice t.outs.a t.outs.len t.outs.cap) ∧
      w'.cell? ⟨w.heap.size, 35, none⟩ = some (.slice t.nulls.a t.nulls.len t.nulls.cap) ∧ w'.cell? ⟨w.heap.size, 36, none⟩ = some (.slice t.notes.a t.notes.len t.notes.cap)) ((first | (simp [go_sem]; done) | (simp [*, go_sem]; done) | (go_simp; done) | go_keep))
    (first | (go_at_call 118; refine (most_two _ t.ins.len t.outs.len _ ?_ ?_ ?_ ?_).mono ?_; (· simp [go_sem]); (· simp [go_sem]); (· omega); (· omega); rintro e w' ⟨rfl, rfl⟩) | (go_at_call 118; refine (most_two _ t.nulls.len t.notes.len _ ?_ ?_ ?_ ?_).mono ?_; (· simp [go_sem]); (· simp [go_sem]); (· omega); (· omega); rintro e w' ⟨rfl, rfl⟩))
  all_goals
    go_wp2
    go_ret
    refine gives_int ?_ ((((Below.refl _ _).alloc (by simp) _).alloc (by simp <;> omega) _).alloc (by simp <;> omega) _).drew
    rw [IntWalk.i64_in _ (by omega)]; rfl

def dueN (t : TxV) : Int := max (actN t) 2
def Small (t : TxV) : Prop := t.ins.len ≤ 1000000 ∧ t.outs.len ≤ 1000000 ∧ t.nulls.len ≤ 1000000 ∧ t.notes.len ≤ 1000000
theorem act_bounds {t : TxV} (h : Small t) : 0 ≤ actN t ∧ actN t ≤ 2000000 := by obtain ⟨h1, h2, h3, h4⟩ := h; unfold actN; omega
theorem due_bounds {t : TxV} (h : Small t) : 2 ≤ dueN t ∧ dueN t ≤ 2000000 := by have := act_bounds h; unfold dueN; omega

set_option maxHeartbeats 400000 in
theorem due_any (t : TxV) (w : World) (h : Small t) :
    Calls Try.prog 106 #[.agg (txC t).toArray] w (Gives (.int .i64 (dueN t)) w) := by
  have ha := act_bounds h
  obtain ⟨h1, h2, h3, h4⟩ := h
  go_enter Try.func106, Try.ntmps106
  go_wp2_with fail
  refine (actions_any t _ h1 h2 h3 h4).mono ?_
  rintro e w1 ⟨rfl, hb1⟩
  obtain ⟨hc, hf, hr, hh⟩ := bcell hb1
  go_wp2_with fail
  refine (most_two _ (actN t) 2 _ (by simp [go_sem]) (by simp [go_sem]) (by omega) (by omega)).mono ?_
  rintro e w2 ⟨rfl, rfl⟩
  go_wp2_with fail
  go_ret
  exact gives_int rfl ((((Below.refl _ _).alloc (by simp) _).trans (hb1.mono (by simp))).alloc (by have := hb1.size; simp at this; omega) _)

set_option maxHeartbeats 400000 in
theorem conv_any (t : TxV) (w : World) (h : Small t) :
    Calls Try.prog 74 #[.agg (txC t).toArray] w (Gives (.int .i64 (dueN t * 5000)) w) := by
  have ha := due_bounds h
  go_enter Try.func74, Try.ntmps74
  go_wp2_with fail
  refine (due_any t _ h).mono ?_
  rintro e w1 ⟨rfl, hb1⟩
  go_wp2_with fail
  go_ret
  exact gives_int rfl (((Below.refl _ _).alloc (by simp) _).trans (hb1.mono (by simp)))

set_option maxHeartbeats 400000 in
theorem paid1_any (b : Nat) (m fee : Int) (w : World) (hc : w.cell? ⟨b, 0, none⟩ = some (.int .i64 fee)) :
    Calls Try.prog 105 #[.int .i64 m, .pointer (some ⟨b, 0, none⟩)] w fun e w' => e = .returned (.int .i64 (max (min fee m) 0)) ∧ w = w' := by
  go_enter Try.func105, Try.ntmps105
  go_wp2
  all_goals
    go_ret
    exact ret_int (by omega) rfl

theorem paid_any (fee : Int) (w : World) :
    Calls Try.prog 73 #[.int .i64 fee] w fun e w' => e = .returned (.func (.func 105) #[] #[.pointer (some ⟨w.heap.size, 0, none⟩)]) ∧ w.alloc (.cells #[.int .i64 fee] 2) = w' := by
  go_enter Try.func73, Try.ntmps73
  go_wp2
  go_ret
  exact ⟨rfl, rfl⟩

def heldN (fee : Int) : Int := max (min fee 2100000000000000) 0
theorem held_bounds (fee : Int) : 0 ≤ heldN fee ∧ heldN fee ≤ 2100000000000000 := by unfold heldN; omega

attribute [local go_sem ↓] Go.wp_at_zero Go.wp_at_succ
set_option maxHeartbeats 1000000 in
theorem pays_any (t : TxV) (fee : Int) (w : World) (h : Small t) :
    Calls Try.prog 42 #[.agg (txC t).toArray, .int .i64 fee] w (Gives (.bool (decide (dueN t * 5000 ≤ heldN fee))) w) := by
  have ha := due_bounds h
  have hh := held_bounds fee
  go_enter Try.func42, Try.ntmps42
  go_wp2_with fail
  go_region_with (first
    | (go_at_call 73; refine (paid_any _ _).mono ?_; rintro e w2 ⟨rfl, rfl⟩)
    | (go_at_call 105; refine (paid1_any _ _ fee _ ?_).mono ?_; (· simp [go_sem]); rintro e w2 ⟨rfl, rfl⟩)
    | (go_at_call 74; refine (conv_any t _ h).mono ?_; rintro e w2 ⟨rfl, hb2⟩))
  all_goals
    go_wp2
    go_ret
    exact gives_bool rfl (Below.of hb2 (by simp <;> omega) ((((Below.refl _ _).alloc (by simp) _).alloc (by simp <;> omega) _).drew))

set_option maxHeartbeats 400000 in
theorem rheld_any (fee : Int) (w : World) :
    Calls Try.prog 75 #[.int .i64 fee] w fun e w' => e = .returned (.int .i64 (heldN fee)) ∧ w = w' := by
  go_enter Try.func75, Try.ntmps75
  go_wp2
  all_goals
    go_ret
    exact ret_int (by unfold heldN; omega) rfl

set_option maxHeartbeats 400000 in
theorem ractions_any (t : TxV) (w : World) (h : Small t) :
    Calls Try.prog 107 #[.agg (txC t).toArray] w (Gives (.int .i64 (actN t)) w) := by
  obtain ⟨h1, h2, h3, h4⟩ := h
  go_enter Try.func107, Try.ntmps107
  go_wp2
  all_goals
    go_ret
    refine gives_int ?_ ((Below.refl _ _).alloc (by simp) _)
    unfold actN; omega

set_option maxHeartbeats 400000 in
theorem rconv_any (t : TxV) (w : World) (h : Small t) :
    Calls Try.prog 76 #[.agg (txC t).toArray] w (Gives (.int .i64 (dueN t * 5000)) w) := by
  have ha := act_bounds h
  go_enter Try.func76, Try.ntmps76
  go_wp2_with fail
  refine (ractions_any t _ h).mono ?_
  rintro e w1 ⟨rfl, hb1⟩
  go_wp2_with fail
  all_goals
    go_ret
    exact gives_int (by unfold dueN; omega) (((Below.refl _ _).alloc (by simp) _).trans (hb1.mono (by simp)))

set_option maxHeartbeats 400000 in
theorem rpays_any (t : TxV) (fee : Int) (w : World) (h : Small t) :
    Calls Try.prog 43 #[.agg (txC t).toArray, .int .i64 fee] w (Gives (.bool (decide (dueN t * 5000 ≤ heldN fee))) w) := by
  have ha := act_bounds h
  go_enter Try.func43, Try.ntmps43
  go_wp2_with fail
  (refine region_since (by kernel_rfl) (by kernel_rfl) ?_)
  repeat (first
    | (refine wpQuiet_goff rfl rfl rfl rfl ?_; simp only [Act.put, List.setIfInBounds_toArray, List.set_cons_succ, List.set_cons_zero])
    | (first
         | refine wpQuiet_free rfl ?_
         | refine wpQuiet_gon rfl rfl rfl rfl ?_
       apply Exists.intro
       refine ⟨fun w' hw' => ?_, ?_⟩
       · (obtain ⟨hc', hr', hs'⟩ := since_facts hw'
          unfold Oper.quietAt
          go_simp
          try go_bits
          first
            | exact quietUpon_value rfl
            | exact rfl
            | (apply quietUpon_enter
               first
               | (go_at_call 75; exact calls_same hw' (rheld_any _ _))
               | (go_at_call 76; exact calls_since hw' (rconv_any t _ h))))
       simp only [Act.put, List.setIfInBounds_toArray, List.set_cons_succ, List.set_cons_zero]))
  first
    | refine wpQuiet_nil ?_
    | fail "QUIET stopped"
  intro wq hwq'
  go_wp2
  go_ret
  exact gives_bool rfl (Below.of (since_below hwq') (by simp <;> omega) ((Below.refl _ _).alloc (by simp) _))

end Go.Proofs.Ytahkiabpjfcfdaa
