/- The contracts of package money: Fee. -/
import Derived.Test.YtghjpbmemogioaaMoney4
import Derived.Test.YtghjpbmemogioaaHReg2
namespace Go.Proofs.Ytghjpbmemogioaa
open Go.RowKit
set_option linter.unusedVariables false
set_option linter.unusedSimpArgs false

def negV (b : Int) : Int := wrap64 (-b)
theorem negV_range {b : Int} (h : I64 b) : I64 (negV b) := by
  unfold I64 at *
  unfold negV wrap64
  omega
def feeO (l m : List Int) (bal : Int) : Option Int :=
  (addedO l).bind fun a => (addedO m).bind fun b => if 0 ≤ bal then (addedO [a, bal]).bind fun s => lessO s b else (addedO [b, negV bal]).bind fun s => lessO a s
theorem addedO_range {l : List Int} {a : Int} (h : addedO l = some a) : 0 ≤ a ∧ a ≤ 2100000000000000 := by
  rcases List.eq_nil_or_concat l with rfl | ⟨l', x, rfl⟩
  · injection h with h; omega
  · unfold addedO at h
    rw [List.concat_eq_append, List.foldlM_append] at h
    cases h1 : List.foldlM addO 0 l' with
    | none => rw [h1] at h; cases h
    | some m =>
      rw [h1] at h
      have h2 : (addO m x).bind some = some a := h
      cases h3 : addO m x with
      | none => rw [h3] at h2; cases h2
      | some z => rw [h3] at h2; injection h2 with h2; subst h2; exact addO_range h3

set_option maxHeartbeats 2000000 in
theorem feeC_any (p q r : Nat) (a1 a2 : Option Addr) (n1 c1 n2 c2 : Nat) (l m : List Int) (bal : Int) (w : World) (hb : I64 bal) (k1 : w.cell? ⟨p, 0, none⟩ = some (.slice a1 n1 c1)) (k2 : w.cell? ⟨q, 0, none⟩ = some (.slice a2 n2 c2)) (k3 : w.cell? ⟨r, 0, none⟩ = some (.int .i64 bal))
    (h1 : IL w a1 n1 c1 l) (h2 : IL w a2 n2 c2 m) (lp : p < w.heap.size) (lq : q < w.heap.size) (lr : r < w.heap.size) :
    Calls Try.prog 39 #[.pointer (some ⟨p, 0, none⟩), .pointer (some ⟨q, 0, none⟩), .pointer (some ⟨r, 0, none⟩)] w (Tells (feeO l m bal) w) := by
  have H1 := Box.mk h1
  have H2 := Box.mk h2
  clear h1 h2
  have hb' := Box.mk hb
  clear hb
  have hall : ∀ w', SinceP w w' → (w'.cell? ⟨p, 0, none⟩ = some (.slice a1 n1 c1) ∧ w'.cell? ⟨q, 0, none⟩ = some (.slice a2 n2 c2)) := fun w' h => ⟨by rw [h.out.cell (p := ⟨p, 0, none⟩) lp]; exact k1, by rw [h.out.cell (p := ⟨q, 0, none⟩) lq]; exact k2⟩
  cases e1 : addedO l with
  | none =>
    have hF : feeO l m bal = none := by unfold feeO; rw [e1]; rfl
    replace hF := Box.mk hF
    replace e1 := Box.mk e1
    cases e2 : addedO m with
    | none =>
      replace e2 := Box.mk e2
      go_enter Try.func39, Try.ntmps39
      go_wp2_with fail
      refine hreg_begin_p (T := fun c w' => Tells (feeO l m bal) w (.panicked c) w') (fun c a w hd h => ⟨hd, h⟩) (S := SinceP w) (by kernel_rfl) (SinceP.refl _).drew (fun hHeld => ?_)
      simp only [List.length_cons, List.length_nil, Nat.zero_add, Nat.reduceAdd, Array.replicate]
      refine hreg_take (i := 0) rfl (by kernel_rfl) (by kernel_rfl) (by kernel_rfl) hreg_panic_p (by rfl) hHeld ?_
      apply Exists.intro
      refine ⟨fun w' hw' => ?_, ?_⟩
      · have hf := hall w' hw'
        go_simp
        try go_bits
        exact yieldsV_mk rfl
      simp only [Act.put, List.setIfInBounds_toArray, List.set_cons_zero, List.set_cons_succ]
      refine hreg_take (i := 2) rfl (by kernel_rfl) (by kernel_rfl) (by kernel_rfl) hreg_panic_p (by rfl) hHeld ?_
      apply Exists.intro
      refine ⟨fun w' hw' => ?_, ?_⟩
      · have hf := hall w' hw'
        go_simp
        try go_bits
        exact yieldsV_mk rfl
      simp only [Act.put, List.setIfInBounds_toArray, List.set_cons_zero, List.set_cons_succ]
      refine wpAnyH_ready (rs := [1]) (by kernel_rfl) (by simp) ?_
      refine hreg_event (o := _) rfl (by rfl) (fun K hK => ?_) ?_
      · go_simp
        first
          | (go_at_call_of 35 (Value.slice a1 n1 c1); refine (added_any a1 n1 c1 l _ (H1.out.below hHeld.out)).mono ?_; rw [e1.out]; rintro e wn ⟨rfl, hbn⟩; exact ⟨rfl, tells_none hF.out (since_next hHeld.out hbn)⟩)
          | (go_at_call_of 35 (Value.slice a2 n2 c2); refine (added_any a2 n2 c2 m _ (H2.out.below hHeld.out)).mono ?_; rw [e2.out]; rintro e wn ⟨rfl, hbn⟩; exact ⟨rfl, tells_none hF.out (since_next hHeld.out hbn)⟩)
          | fail "die 1"
      exact AllReadyH.nil
    | some b =>
      replace e2 := Box.mk e2
      go_enter Try.func39, Try.ntmps39
      go_wp2_with fail
      refine hreg_begin_p (T := fun c w' => Tells (feeO l m bal) w (.panicked c) w') (fun c a w hd h => ⟨hd, h⟩) (S := SinceP w) (by kernel_rfl) (SinceP.refl _).drew (fun hHeld => ?_)
      simp only [List.length_cons, List.length_nil, Nat.zero_add, Nat.reduceAdd, Array.replicate]
      refine hreg_take (i := 0) rfl (by kernel_rfl) (by kernel_rfl) (by kernel_rfl) hreg_panic_p (by rfl) hHeld ?_
      apply Exists.intro
      refine ⟨fun w' hw' => ?_, ?_⟩
      · have hf := hall w' hw'
        go_simp
        try go_bits
        exact yieldsV_mk rfl
      simp only [Act.put, List.setIfInBounds_toArray, List.set_cons_zero, List.set_cons_succ]
      refine hreg_take (i := 2) rfl (by kernel_rfl) (by kernel_rfl) (by kernel_rfl) hreg_panic_p (by rfl) hHeld ?_
      apply Exists.intro
      refine ⟨fun w' hw' => ?_, ?_⟩
      · have hf := hall w' hw'
        go_simp
        try go_bits
        exact yieldsV_mk rfl
      simp only [Act.put, List.setIfInBounds_toArray, List.set_cons_zero, List.set_cons_succ]
      refine wpAnyH_ready (rs := [1]) (by kernel_rfl) (by simp) ?_
      refine hreg_event (o := _) rfl (by rfl) (fun K hK => ?_) ?_
      · go_simp
        first
          | (go_at_call_of 35 (Value.slice a1 n1 c1); refine (added_any a1 n1 c1 l _ (H1.out.below hHeld.out)).mono ?_; rw [e1.out]; rintro e wn ⟨rfl, hbn⟩; exact ⟨rfl, tells_none hF.out (since_next hHeld.out hbn)⟩)
          | fail "die 1"
      exact AllReadyH.nil
  | some a =>
    cases e2 : addedO m with
    | none =>
      have hF : feeO l m bal = none := by unfold feeO; rw [e1, e2]; rfl
      replace hF := Box.mk hF
      replace e1 := Box.mk e1
      replace e2 := Box.mk e2
      go_enter Try.func39, Try.ntmps39
      go_wp2_with fail
      refine hreg_begin_p (T := fun c w' => Tells (feeO l m bal) w (.panicked c) w') (fun c a w hd h => ⟨hd, h⟩) (S := SinceP w) (by kernel_rfl) (SinceP.refl _).drew (fun hHeld => ?_)
      simp only [List.length_cons, List.length_nil, Nat.zero_add, Nat.reduceAdd, Array.replicate]
      refine hreg_take (i := 0) rfl (by kernel_rfl) (by kernel_rfl) (by kernel_rfl) hreg_panic_p (by rfl) hHeld ?_
      apply Exists.intro
      refine ⟨fun w' hw' => ?_, ?_⟩
      · have hf := hall w' hw'
        go_simp
        try go_bits
        exact yieldsV_mk rfl
      simp only [Act.put, List.setIfInBounds_toArray, List.set_cons_zero, List.set_cons_succ]
      refine hreg_take (i := 2) rfl (by kernel_rfl) (by kernel_rfl) (by kernel_rfl) hreg_panic_p (by rfl) hHeld ?_
      apply Exists.intro
      refine ⟨fun w' hw' => ?_, ?_⟩
      · have hf := hall w' hw'
        go_simp
        try go_bits
        exact yieldsV_mk rfl
      simp only [Act.put, List.setIfInBounds_toArray, List.set_cons_zero, List.set_cons_succ]
      refine wpAnyH_ready (rs := [1]) (by kernel_rfl) (by simp) ?_
      refine hreg_event (o := _) rfl (by rfl) (fun K hK => ?_) ?_
      · go_simp
        first
          | (go_at_call_of 35 (Value.slice a1 n1 c1); refine (added_any a1 n1 c1 l _ (H1.out.below hHeld.out)).mono ?_; rw [e1.out]; rintro e wn ⟨rfl, hb⟩)
          | skip
        refine hK.out _ _ ?_ (fun hHeld' => ?_)
        · first
            | exact hHeld.next hb
            | exact hHeld
            | exact hHeld.alloc _
            | exact hHeld.setCell (by simp <;> omega) _
            | exact (hHeld.alloc _).alloc _
        replace hHeld := hHeld'
        clear hHeld' hK K
        simp only [Act.put, List.setIfInBounds_toArray, List.set_cons_zero, List.set_cons_succ]
        refine wpAnyH_ready (rs := [3]) (by kernel_rfl) (by simp) ?_
        refine hreg_event (o := _) rfl (by rfl) (fun K hK => ?_) ?_
        · go_simp
          first
            | (go_at_call_of 35 (Value.slice a2 n2 c2); refine (added_any a2 n2 c2 m _ (H2.out.below hHeld.out)).mono ?_; rw [e2.out]; rintro e wn ⟨rfl, hbn⟩; exact ⟨rfl, tells_none hF.out (since_next hHeld.out hbn)⟩)
            | fail "die 3"
        exact AllReadyH.nil
      exact AllReadyH.nil
    | some b =>
      have ra : I64 a := by have := addedO_range e1; unfold I64; omega
      have rb : I64 b := by have := addedO_range e2; unfold I64; omega
      by_cases hbal : 0 ≤ bal
      · have hF : feeO l m bal = (addedO [a, bal]).bind fun s => lessO s b := by unfold feeO; rw [e1, e2]; simp only [Option.bind_some]; rw [if_pos hbal]
        replace hF := Box.mk hF
        replace e1 := Box.mk e1
        replace e2 := Box.mk e2
        replace ra := Box.mk ra
        replace rb := Box.mk rb
        go_enter Try.func39, Try.ntmps39
        go_wp2_with fail
        refine hreg_begin (S := SinceP w) (by kernel_rfl) (SinceP.refl _).drew (fun hHeld => ?_)
        simp only [List.length_cons, List.length_nil, Nat.zero_add, Nat.reduceAdd, Array.replicate]
        refine hreg_take (i := 0) rfl (by kernel_rfl) (by kernel_rfl) (by kernel_rfl) hreg_panic (by rfl) hHeld ?_
        apply Exists.intro
        refine ⟨fun w' hw' => ?_, ?_⟩
        · have hf := hall w' hw'
          go_simp
          try go_bits
          exact yieldsV_mk rfl
        simp only [Act.put, List.setIfInBounds_toArray, List.set_cons_zero, List.set_cons_succ]
        refine hreg_take (i := 2) rfl (by kernel_rfl) (by kernel_rfl) (by kernel_rfl) hreg_panic (by rfl) hHeld ?_
        apply Exists.intro
        refine ⟨fun w' hw' => ?_, ?_⟩
        · have hf := hall w' hw'
          go_simp
          try go_bits
          exact yieldsV_mk rfl
        simp only [Act.put, List.setIfInBounds_toArray, List.set_cons_zero, List.set_cons_succ]
        refine wpAnyH_ready (rs := [1]) (by kernel_rfl) (by simp) ?_
        refine hreg_event (o := _) rfl (by rfl) (fun K hK => ?_) ?_
        · go_simp
          first
            | (go_at_call_of 35 (Value.slice a1 n1 c1); refine (added_any a1 n1 c1 l _ (H1.out.below hHeld.out)).mono ?_; rw [e1.out]; rintro e wn ⟨rfl, hb⟩)
            | (go_at_call_of 35 (Value.slice a2 n2 c2); refine (added_any a2 n2 c2 m _ (H2.out.below hHeld.out)).mono ?_; rw [e2.out]; rintro e wn ⟨rfl, hb⟩)
            | skip
          refine hK.out _ _ ?_ (fun hHeld' => ?_)
          · first
              | exact hHeld.next hb
              | exact hHeld
              | exact hHeld.alloc _
              | exact hHeld.setCell (by simp <;> omega) _
              | exact (hHeld.alloc _).alloc _
          replace hHeld := hHeld'
          clear hHeld' hK K
          simp only [Act.put, List.setIfInBounds_toArray, List.set_cons_zero, List.set_cons_succ]
          refine wpAnyH_ready (rs := [3]) (by kernel_rfl) (by simp) ?_
          refine hreg_event (o := _) rfl (by rfl) (fun K hK => ?_) ?_
          · go_simp
            first
              | (go_at_call_of 35 (Value.slice a1 n1 c1); refine (added_any a1 n1 c1 l _ (H1.out.below hHeld.out)).mono ?_; rw [e1.out]; rintro e wn ⟨rfl, hb⟩)
              | (go_at_call_of 35 (Value.slice a2 n2 c2); refine (added_any a2 n2 c2 m _ (H2.out.below hHeld.out)).mono ?_; rw [e2.out]; rintro e wn ⟨rfl, hb⟩)
              | skip
            refine hK.out _ _ ?_ (fun hHeld' => ?_)
            · first
                | exact hHeld.next hb
                | exact hHeld
                | exact hHeld.alloc _
                | exact hHeld.setCell (by simp <;> omega) _
                | exact (hHeld.alloc _).alloc _
            replace hHeld := hHeld'
            clear hHeld' hK K
            simp only [Act.put, List.setIfInBounds_toArray, List.set_cons_zero, List.set_cons_succ]
            refine hreg_take (i := 4) rfl (by kernel_rfl) (by kernel_rfl) (by kernel_rfl) hreg_panic (by rfl) hHeld ?_
            apply Exists.intro
            refine ⟨fun w' hw' => ?_, ?_⟩
            · have hf := hall w' hw'
              go_simp
              try go_bits
              exact yieldsV_mk rfl
            simp only [Act.put, List.setIfInBounds_toArray, List.set_cons_zero, List.set_cons_succ]
            refine hreg_take (i := 5) rfl (by kernel_rfl) (by kernel_rfl) (by kernel_rfl) hreg_panic (by rfl) hHeld ?_
            apply Exists.intro
            refine ⟨fun w' hw' => ?_, ?_⟩
            · have hf := hall w' hw'
              go_simp
              try go_bits
              exact yieldsV_mk rfl
            simp only [Act.put, List.setIfInBounds_toArray, List.set_cons_zero, List.set_cons_succ]
            refine wpAnyH_done (by kernel_rfl) ?_ _
            refine NoPanic.normal ?_
            have k3n : wn.cell? ⟨r, 0, none⟩ = some (.int .i64 bal) := by rw [hHeld.out.cell (p := ⟨r, 0, none⟩) lr]; exact k3
            go_wp2_with fail
            refine (added_any _ 2 2 [a, bal] _ (IL.new wn [a, bal] _ _ _ rfl (rows_i2 _ _).symm (by simp) (by have := hb'.out; have := ra.out; have := rb.out; have := negV_range hb'.out; intro x hx; simp at hx; rcases hx with rfl | rfl <;> first | assumption | (unfold I64 at *; omega)))).mono ?_
            have hB : Below w.heap.size w (wn.alloc (.cells #[.int .i64 a, .int .i64 (bal)] 2)) := hHeld.out.alloc hHeld.out.size _
            rcases hs : addedO [a, bal] with _ | s
            · have hF2 : feeO l m bal = none := by rw [hF.out, hs]; rfl
              replace hF2 := Box.mk hF2
              replace hs := Box.mk hs
              rintro e wo ⟨rfl, hbo⟩
              go_wp2
              exact ⟨rfl, tells_none hF2.out (Below.of hbo (Nat.le_trans hHeld.out.size (by simp)) hB)⟩
            · have rs : I64 s := by have := addedO_range hs; unfold I64; omega
              have hF2 : feeO l m bal = lessO s b := by rw [hF.out, hs]; rfl
              replace hF2 := Box.mk hF2
              replace hs := Box.mk hs
              replace rs := Box.mk rs
              rintro e wo ⟨rfl, hbo⟩
              go_wp2_with fail
              refine (less_any s b _ (by first | exact ra.out | exact rs.out) (by first | exact rb.out | exact rs.out)).mono ?_
              rcases ht : lessO s b with _ | t
              · replace ht := Box.mk ht
                rintro e wt ⟨rfl, hbt⟩
                go_wp2
                exact ⟨rfl, tells_none (by rw [hF2.out, ht.out]) (since_next (Below.of hbo (Nat.le_trans hHeld.out.size (by simp)) hB) hbt)⟩
              · replace ht := Box.mk ht
                rintro e wt ⟨rfl, hbt⟩
                go_wp2
                go_ret
                exact tells_some (by rw [hF2.out, ht.out]) (since_next (Below.of hbo (Nat.le_trans hHeld.out.size (by simp)) hB) hbt) rfl
          exact AllReadyH.nil
        exact AllReadyH.nil
      · have hF : feeO l m bal = (addedO [b, negV bal]).bind fun s => lessO a s := by unfold feeO; rw [e1, e2]; simp only [Option.bind_some]; rw [if_neg hbal]
        replace hF := Box.mk hF
        replace e1 := Box.mk e1
        replace e2 := Box.mk e2
        replace ra := Box.mk ra
        replace rb := Box.mk rb
        go_enter Try.func39, Try.ntmps39
        go_wp2_with fail
        refine hreg_begin (S := SinceP w) (by kernel_rfl) (SinceP.refl _).drew (fun hHeld => ?_)
        simp only [List.length_cons, List.length_nil, Nat.zero_add, Nat.reduceAdd, Array.replicate]
        refine hreg_take (i := 0) rfl (by kernel_rfl) (by kernel_rfl) (by kernel_rfl) hreg_panic (by rfl) hHeld ?_
        apply Exists.intro
        refine ⟨fun w' hw' => ?_, ?_⟩
        · have hf := hall w' hw'
          go_simp
          try go_bits
          exact yieldsV_mk rfl
        simp only [Act.put, List.setIfInBounds_toArray, List.set_cons_zero, List.set_cons_succ]
        refine hreg_take (i := 2) rfl (by kernel_rfl) (by kernel_rfl) (by kernel_rfl) hreg_panic (by rfl) hHeld ?_
        apply Exists.intro
        refine ⟨fun w' hw' => ?_, ?_⟩
        · have hf := hall w' hw'
          go_simp
          try go_bits
          exact yieldsV_mk rfl
        simp only [Act.put, List.setIfInBounds_toArray, List.set_cons_zero, List.set_cons_succ]
        refine wpAnyH_ready (rs := [1]) (by kernel_rfl) (by simp) ?_
        refine hreg_event (o := _) rfl (by rfl) (fun K hK => ?_) ?_
        · go_simp
          first
            | (go_at_call_of 35 (Value.slice a1 n1 c1); refine (added_any a1 n1 c1 l _ (H1.out.below hHeld.out)).mono ?_; rw [e1.out]; rintro e wn ⟨rfl, hb⟩)
            | (go_at_call_of 35 (Value.slice a2 n2 c2); refine (added_any a2 n2 c2 m _ (H2.out.below hHeld.out)).mono ?_; rw [e2.out]; rintro e wn ⟨rfl, hb⟩)
            | skip
          refine hK.out _ _ ?_ (fun hHeld' => ?_)
          · first
              | exact hHeld.next hb
              | exact hHeld
              | exact hHeld.alloc _
              | exact hHeld.setCell (by simp <;> omega) _
              | exact (hHeld.alloc _).alloc _
          replace hHeld := hHeld'
          clear hHeld' hK K
          simp only [Act.put, List.setIfInBounds_toArray, List.set_cons_zero, List.set_cons_succ]
          refine wpAnyH_ready (rs := [3]) (by kernel_rfl) (by simp) ?_
          refine hreg_event (o := _) rfl (by rfl) (fun K hK => ?_) ?_
          · go_simp
            first
              | (go_at_call_of 35 (Value.slice a1 n1 c1); refine (added_any a1 n1 c1 l _ (H1.out.below hHeld.out)).mono ?_; rw [e1.out]; rintro e wn ⟨rfl, hb⟩)
              | (go_at_call_of 35 (Value.slice a2 n2 c2); refine (added_any a2 n2 c2 m _ (H2.out.below hHeld.out)).mono ?_; rw [e2.out]; rintro e wn ⟨rfl, hb⟩)
              | skip
            refine hK.out _ _ ?_ (fun hHeld' => ?_)
            · first
                | exact hHeld.next hb
                | exact hHeld
                | exact hHeld.alloc _
                | exact hHeld.setCell (by simp <;> omega) _
                | exact (hHeld.alloc _).alloc _
            replace hHeld := hHeld'
            clear hHeld' hK K
            simp only [Act.put, List.setIfInBounds_toArray, List.set_cons_zero, List.set_cons_succ]
            refine hreg_take (i := 4) rfl (by kernel_rfl) (by kernel_rfl) (by kernel_rfl) hreg_panic (by rfl) hHeld ?_
            apply Exists.intro
            refine ⟨fun w' hw' => ?_, ?_⟩
            · have hf := hall w' hw'
              go_simp
              try go_bits
              exact yieldsV_mk rfl
            simp only [Act.put, List.setIfInBounds_toArray, List.set_cons_zero, List.set_cons_succ]
            refine hreg_take (i := 5) rfl (by kernel_rfl) (by kernel_rfl) (by kernel_rfl) hreg_panic (by rfl) hHeld ?_
            apply Exists.intro
            refine ⟨fun w' hw' => ?_, ?_⟩
            · have hf := hall w' hw'
              go_simp
              try go_bits
              exact yieldsV_mk rfl
            simp only [Act.put, List.setIfInBounds_toArray, List.set_cons_zero, List.set_cons_succ]
            refine wpAnyH_done (by kernel_rfl) ?_ _
            refine NoPanic.normal ?_
            have k3n : wn.cell? ⟨r, 0, none⟩ = some (.int .i64 bal) := by rw [hHeld.out.cell (p := ⟨r, 0, none⟩) lr]; exact k3
            go_wp2_with fail
            rw [show wrap64 (-bal) = negV bal from rfl]
            refine (added_any _ 2 2 [b, negV bal] _ (IL.new wn [b, negV bal] _ _ _ rfl (rows_i2 _ _).symm (by simp) (by have := hb'.out; have := ra.out; have := rb.out; have := negV_range hb'.out; intro x hx; simp at hx; rcases hx with rfl | rfl <;> first | assumption | (unfold I64 at *; omega)))).mono ?_
            have hB : Below w.heap.size w (wn.alloc (.cells #[.int .i64 b, .int .i64 (negV bal)] 2)) := hHeld.out.alloc hHeld.out.size _
            rcases hs : addedO [b, negV bal] with _ | s
            · have hF2 : feeO l m bal = none := by rw [hF.out, hs]; rfl
              replace hF2 := Box.mk hF2
              replace hs := Box.mk hs
              rintro e wo ⟨rfl, hbo⟩
              go_wp2
              exact ⟨rfl, tells_none hF2.out (Below.of hbo (Nat.le_trans hHeld.out.size (by simp)) hB)⟩
            · have rs : I64 s := by have := addedO_range hs; unfold I64; omega
              have hF2 : feeO l m bal = lessO a s := by rw [hF.out, hs]; rfl
              replace hF2 := Box.mk hF2
              replace hs := Box.mk hs
              replace rs := Box.mk rs
              rintro e wo ⟨rfl, hbo⟩
              go_wp2_with fail
              refine (less_any a s _ (by first | exact ra.out | exact rs.out) (by first | exact rb.out | exact rs.out)).mono ?_
              rcases ht : lessO a s with _ | t
              · replace ht := Box.mk ht
                rintro e wt ⟨rfl, hbt⟩
                go_wp2
                exact ⟨rfl, tells_none (by rw [hF2.out, ht.out]) (since_next (Below.of hbo (Nat.le_trans hHeld.out.size (by simp)) hB) hbt)⟩
              · replace ht := Box.mk ht
                rintro e wt ⟨rfl, hbt⟩
                go_wp2
                go_ret
                exact tells_some (by rw [hF2.out, ht.out]) (since_next (Below.of hbo (Nat.le_trans hHeld.out.size (by simp)) hB) hbt) rfl
          exact AllReadyH.nil
        exact AllReadyH.nil

end Go.Proofs.Ytghjpbmemogioaa
