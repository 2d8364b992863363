/- Layer 18: what is shown; what any list is with one more, what it has, and what is not over, is the document's. -/
import Derived.Test.YtghjpbmemogioaaRecentR3
import Derived.Test.YtghjpbmemogioaaKey1
namespace Go.Proofs.Ytghjpbmemogioaa
set_option maxRecDepth 100000
open Go.RowKit
set_option linter.unusedVariables false
set_option linter.unusedSimpArgs false
attribute [local irreducible] Int.lt Int.le
attribute [local go_sem ↓] load_key store_key alloc_key build0_key eq_key build1_key load_it store_it alloc_it one_it make_it append_it build_it eq_it exec_clear load_rit store_rit alloc_rit one_rit make_rit append_rit build_rit eq_rit
attribute [local go_sem] rowOf_drew rowOf_alloc_old rowOf_alloc_new canPut_drew canPut_alloc_old canPut_alloc_new setCells_alloc_new

theorem putL_nil (k : Key) (now : Int) : putL [] k now = [⟨k, now⟩] := by unfold putL putA; rfl
theorem youngB_at {now a : Int} {k : Key} (ha : 0 ≤ a) (h : a ≤ now) (hn : now < 18446744073709551616) : youngB now ⟨k, a⟩ = decide (now - a < 60) := by
  rw [youngB_ge (by show ¬ now < a; omega)]
  show decide (IntKind.u64.wrap (now - a) < 60) = _
  rw [IntKind.wrap_u64, show (now - a) % 18446744073709551616 = now - a from by omega]

set_option maxHeartbeats 1000000 in
theorem shown18 (W : World) : Calls Try.prog 24 #[] W (Gives (.bool true) W) := by
  have h1 : hasB [(⟨key1 1, 3⟩ : ItemV)] (key1 1) 62 = true := by
    rw [hasB_cons, hasB_nil, youngB_at (by omega) (by omega) (by omega)]; simp
  have h2 : hasB [(⟨key1 1, 3⟩ : ItemV)] (key1 1) 63 = false := by
    rw [hasB_cons, hasB_nil, youngB_at (by omega) (by omega) (by omega)]; simp
  replace h1 := Box.mk h1
  replace h2 := Box.mk h2
  go_enter Try.func24, Try.ntmps24
  go_wp2_with fail
  refine (put_any none 0 0 [] (key1 1) 3 _ (SL.nil _ _ _) (by omega)).mono ?_
  rintro e w1 ⟨a, n, rfl, hV, _, hb1⟩
  rw [putL_nil] at hV
  have hn : n = 1 := hV.1
  subst hn
  replace hV := Box.mk hV
  go_wp2_with fail
  refine (has_any a 1 1 _ (key1 1) 62 _ hV.out (by omega)).mono ?_
  rintro e w2 ⟨rfl, hb2⟩
  rw [h1.out]
  go_wp2_with fail
  refine (has_any a 1 1 _ (key1 1) 63 _ (hV.out.below hb2) (by omega)).mono ?_
  rintro e w3 ⟨rfl, hb3⟩
  rw [h2.out]
  go_wp2
  go_ret
  exact gives_bool rfl (since_next (since_next hb1 hb2) hb3)

theorem okI_filter {l : List ItemV} (h : ∀ x ∈ l, okI x) (p : ItemV → Bool) : ∀ x ∈ l.filter p, okI x := fun x hx => h x (List.mem_filter.1 hx).1
theorem putL_length (l : List ItemV) (k : Key) (now : Int) : (putL l k now).length ≤ 5 := by
  unfold putL
  rw [List.length_drop]; omega

set_option maxRecDepth 100000 in
set_option maxHeartbeats 4000000 in
theorem recentTells_walk (a : Option Addr) (n c : Nat) (l : List ItemV) (k : Key) (now : Int) (W : World) (h : IL W a n c l) (hok : ∀ x ∈ l, okI x) (hnow : 0 ≤ now ∧ now < 18446744073709551616) :
    Calls Try.prog 9 #[.slice a n c, .agg (keyC k).toArray, .int .u64 now] W (LawEnd W) := by
  have hl := Box.mk h.1
  have H := Box.mk h
  replace hok := Box.mk hok
  replace hnow := Box.mk hnow
  clear h
  by_cases hn : 200 < n
  · go_enter Try.func9, Try.ntmps9
    go_wp2_with fail
    refine (shown18 _).mono ?_
    rintro e w2 ⟨rfl, hb2⟩
    go_wp2
    go_ret
    exact gives_bool rfl (Below.of hb2 (by simp <;> omega) ((Below.refl _ _).alloc (Nat.le_refl _) _))
  · have hn2 : n ≤ 100000 := by omega
    go_enter Try.func9, Try.ntmps9
    go_wp2_with fail
    have hB0 : Below W.heap.size W (W.alloc (.cells (keyC k).toArray 40)) := (Below.refl _ _).alloc (Nat.le_refl _) _
    have hK0 : rowOf (W.alloc (.cells (keyC k).toArray 40)) W.heap.size 0 32 = some (keyC k) := rowOf_alloc_new _ _ _ _ _ _ rfl (keyC_length k)
    have hs0 : (W.alloc (.cells (keyC k).toArray 40)).heap.size = W.heap.size + 1 := by simp
    refine (shown18 _).mono ?_
    rintro e w8 ⟨rfl, hb8⟩
    have hK8 : rowOf w8 W.heap.size 0 32 = some (keyC k) := by rw [rowOf_congr (hb8.block _ (by omega))]; exact hK0
    have hs8 : W.heap.size < w8.heap.size := by have := hb8.size; omega
    have hB8 : Below W.heap.size W w8 := Below.of hb8 (by omega) hB0
    have H8 : Box (IL w8 a n c l) := Box.mk (H.out.below hB8)
    clear hb8 hK0 hs0 hB0
    go_wp2_with fail
    obtain ⟨tp, htp⟩ : ∃ b, putL l k now = b := ⟨_, rfl⟩
    obtain ⟨th, hth⟩ : ∃ b, hasB l k now = b := ⟨_, rfl⟩
    obtain ⟨to, hto⟩ : ∃ b, l.filter (youngB now) = b := ⟨_, rfl⟩
    have ltp : tp.length ≤ 5 := by rw [← htp]; exact putL_length _ _ _
    have lto : to.length ≤ 100000 := by rw [← hto]; have := List.length_filter_le (youngB now) l; have := hl.out; omega
    have D1 := fun (w' : World) (h : SinceP w8 w') => put_any a n c l k now w' (H8.out.below h.out) hn2
    have D2 := fun (w' : World) (h : SinceP w8 w') => has_any a n c l k now w' (H8.out.below h.out) hn2
    have D3 := fun (w' : World) (h : SinceP w8 w') => old_any a n c l now w' (H8.out.below h.out) hn2
    have D4 := fun (w' : World) (h : SinceP w8 w') => rtheirs_any a n c l w' (H8.out.below h.out) hn2
    have D5 := fun (x : Option Addr) (y z : Nat) (w' : World) (h : IL w' x y z l) => rput_any x y z l k now w' h (by rw [h.1, ← hl.out]; exact hn2)
    have D6 := fun (x : Option Addr) (y z : Nat) (w' : World) (h : IL w' x y z l) => rhas_any x y z l k now w' h (by rw [h.1, ← hl.out]; exact hn2) hok.out hnow.out
    have D7 := fun (x : Option Addr) (y z : Nat) (w' : World) (h : IL w' x y z l) => rold_any x y z l now w' h (by rw [h.1, ← hl.out]; exact hn2) hok.out hnow.out
    simp only [htp] at D1 D5
    simp only [hth] at D2 D6
    simp only [hto] at D3 D7
    have E1 := fun (x : Option Addr) (y z : Nat) (w' : World) (h : IL w' x y z tp) => rtheirs_any x y z tp w' h (by have := h.1; omega)
    have E2 := fun (x : Option Addr) (y z : Nat) (w' : World) (h : IL w' x y z to) => rtheirs_any x y z to w' h (by have := h.1; omega)
    have E3 := fun (x x' : Option Addr) (y y' z z' : Nat) (w' : World) (h : IL w' x y z tp) (h' : IL w' x' y' z' tp) => rsame_any x x' y y' z z' tp w' h h' (by have := h.1; omega)
    have E4 := fun (x x' : Option Addr) (y y' z z' : Nat) (w' : World) (h : IL w' x y z to) (h' : IL w' x' y' z' to) => rsame_any x x' y y' z z' to w' h h' (by have := h.1; omega)
    replace D1 := Box.mk D1
    replace D2 := Box.mk D2
    replace D3 := Box.mk D3
    replace D4 := Box.mk D4
    replace D5 := Box.mk D5
    replace D6 := Box.mk D6
    replace D7 := Box.mk D7
    replace E1 := Box.mk E1
    replace E2 := Box.mk E2
    replace E3 := Box.mk E3
    replace E4 := Box.mk E4
    replace htp := Box.mk htp
    replace hth := Box.mk hth
    replace hto := Box.mk hto
    replace ltp := Box.mk ltp
    replace lto := Box.mk lto
    have hall : ∀ w', SinceP w8 w' → (rowOf w' W.heap.size 0 32 = some (keyC k) ∧ W.heap.size < w'.heap.size) := fun w' h => ⟨by rw [rowOf_congr (h.out.block _ hs8)]; exact hK8, by have := h.out.size; omega⟩
    refine hreg_begin (S := SinceP w8) (by kernel_rfl) (SinceP.refl _).drew (fun hHeld => ?_)
    simp only [List.length_cons, List.length_nil, Nat.zero_add, Nat.reduceAdd, Array.replicate]
    refine hreg_take (i := 0) rfl (by kernel_rfl) (by kernel_rfl) (by kernel_rfl) hreg_panic (by rfl) hHeld ?_
    apply Exists.intro
    refine ⟨fun w' hw' => ?_, ?_⟩
    · have hf := hall w' hw'
      go_simp
      try go_bits
      exact yieldsV_mk rfl
    simp only [Act.put, List.setIfInBounds_toArray, List.set_cons_zero, List.set_cons_succ]
    refine hreg_take (i := 1) rfl (by kernel_rfl) (by kernel_rfl) (by kernel_rfl) hreg_panic (by rfl) hHeld ?_
    apply Exists.intro
    refine ⟨fun w' hw' => ?_, ?_⟩
    · have hf := hall w' hw'
      go_simp
      try go_bits
      exact yieldsV_mk rfl
    simp only [Act.put, List.setIfInBounds_toArray, List.set_cons_zero, List.set_cons_succ]
    refine hreg_take (i := 2) rfl (by kernel_rfl) (by kernel_rfl) (by kernel_rfl) hreg_panic (by rfl) hHeld ?_
    apply Exists.intro
    refine ⟨fun w' hw' => ?_, ?_⟩
    · have hf := hall w' hw'
      go_simp
      try go_bits
      exact yieldsV_mk rfl
    simp only [Act.put, List.setIfInBounds_toArray, List.set_cons_zero, List.set_cons_succ]
    refine hreg_take (i := 5) rfl (by kernel_rfl) (by kernel_rfl) (by kernel_rfl) hreg_panic (by rfl) hHeld ?_
    apply Exists.intro
    refine ⟨fun w' hw' => ?_, ?_⟩
    · have hf := hall w' hw'
      go_simp
      try go_bits
      exact yieldsV_mk rfl
    simp only [Act.put, List.setIfInBounds_toArray, List.set_cons_zero, List.set_cons_succ]
    refine hreg_take (i := 7) rfl (by kernel_rfl) (by kernel_rfl) (by kernel_rfl) hreg_panic (by rfl) hHeld ?_
    apply Exists.intro
    refine ⟨fun w' hw' => ?_, ?_⟩
    · have hf := hall w' hw'
      go_simp
      try go_bits
      exact yieldsV_mk rfl
    simp only [Act.put, List.setIfInBounds_toArray, List.set_cons_zero, List.set_cons_succ]
    refine hreg_take (i := 8) rfl (by kernel_rfl) (by kernel_rfl) (by kernel_rfl) hreg_panic (by rfl) hHeld ?_
    apply Exists.intro
    refine ⟨fun w' hw' => ?_, ?_⟩
    · have hf := hall w' hw'
      go_simp
      try go_bits
      exact yieldsV_mk rfl
    simp only [Act.put, List.setIfInBounds_toArray, List.set_cons_zero, List.set_cons_succ]
    refine wpAnyH_ready (rs := [3]) (by kernel_rfl) (by simp) ?_
    refine hreg_event (o := _) rfl (by rfl) (fun K hK => ?_) ?_
    · go_simp
      first
        | (go_at_call 27; refine (D1.out _ hHeld).mono ?_; rintro e wn ⟨a1, n1, rfl, L1, _, hb⟩; replace L1 := Box.mk L1)
        | skip
      refine hK.out _ _ ?_ (fun hHeld' => ?_)
      · first
          | exact hHeld.next hb
          | exact hHeld
          | exact hHeld.alloc _
          | exact hHeld.setCell (by simp <;> omega) _
          | exact (hHeld.alloc _).alloc _
      replace hHeld := hHeld'
      clear hHeld' hK K
      simp only [Act.put, List.setIfInBounds_toArray, List.set_cons_zero, List.set_cons_succ]
      refine wpAnyH_ready (rs := [4]) (by kernel_rfl) (by simp) ?_
      refine hreg_event (o := _) rfl (by rfl) (fun K hK => ?_) ?_
      · go_simp
        first
          | (go_at_call 26; refine (E1.out _ _ _ _ L1.out).mono ?_; rintro e wn ⟨a2, n2', c2, rfl, L2, _, hb⟩; replace L2 := Box.mk L2)
          | skip
        refine hK.out _ _ ?_ (fun hHeld' => ?_)
        · first
            | exact hHeld.next hb
            | exact hHeld
            | exact hHeld.alloc _
            | exact hHeld.setCell (by simp <;> omega) _
            | exact (hHeld.alloc _).alloc _
        replace hHeld := hHeld'
        clear hHeld' hK K
        simp only [Act.put, List.setIfInBounds_toArray, List.set_cons_zero, List.set_cons_succ]
        refine wpAnyH_ready (rs := [6]) (by kernel_rfl) (by simp) ?_
        refine hreg_event (o := _) rfl (by rfl) (fun K hK => ?_) ?_
        · go_simp
          first
            | (go_at_call 26; refine (D4.out _ hHeld).mono ?_; rintro e wn ⟨a3, n3, c3, rfl, L3, _, hb⟩; replace L2 := Box.mk (L2.out.below hb); replace L3 := Box.mk L3)
            | skip
          refine hK.out _ _ ?_ (fun hHeld' => ?_)
          · first
              | exact hHeld.next hb
              | exact hHeld
              | exact hHeld.alloc _
              | exact hHeld.setCell (by simp <;> omega) _
              | exact (hHeld.alloc _).alloc _
          replace hHeld := hHeld'
          clear hHeld' hK K
          simp only [Act.put, List.setIfInBounds_toArray, List.set_cons_zero, List.set_cons_succ]
          refine wpAnyH_ready (rs := [9]) (by kernel_rfl) (by simp) ?_
          refine hreg_event (o := _) rfl (by rfl) (fun K hK => ?_) ?_
          · go_simp
            first
              | (go_at_call 28; refine (D5.out _ _ _ _ L3.out).mono ?_; rintro e wn ⟨a4, n4, c4, rfl, L4, _, hb⟩; replace L2 := Box.mk (L2.out.below hb); replace L4 := Box.mk L4)
              | skip
            refine hK.out _ _ ?_ (fun hHeld' => ?_)
            · first
                | exact hHeld.next hb
                | exact hHeld
                | exact hHeld.alloc _
                | exact hHeld.setCell (by simp <;> omega) _
                | exact (hHeld.alloc _).alloc _
            replace hHeld := hHeld'
            clear hHeld' hK K
            simp only [Act.put, List.setIfInBounds_toArray, List.set_cons_zero, List.set_cons_succ]
            refine wpAnyH_ready (rs := [10]) (by kernel_rfl) (by simp) ?_
            refine hreg_event (o := _) rfl (by rfl) (fun K hK => ?_) ?_
            · go_simp
              first
                | (go_at_call 25; refine (E3.out _ _ _ _ _ _ _ L2.out L4.out).mono ?_; rintro e wn ⟨rfl, hb⟩)
                | skip
              refine hK.out _ _ ?_ (fun hHeld' => ?_)
              · first
                  | exact hHeld.next hb
                  | exact hHeld
                  | exact hHeld.alloc _
                  | exact hHeld.setCell (by simp <;> omega) _
                  | exact (hHeld.alloc _).alloc _
              replace hHeld := hHeld'
              clear hHeld' hK K
              simp only [Act.put, List.setIfInBounds_toArray, List.set_cons_zero, List.set_cons_succ]
              refine hreg_take (i := 11) rfl (by kernel_rfl) (by kernel_rfl) (by kernel_rfl) hreg_panic (by rfl) hHeld ?_
              apply Exists.intro
              refine ⟨fun w' hw' => ?_, ?_⟩
              · have hf := hall w' hw'
                go_simp
                try go_bits
                exact yieldsV_mk rfl
              simp only [Act.put, List.setIfInBounds_toArray, List.set_cons_zero, List.set_cons_succ]
              refine hreg_take (i := 12) rfl (by kernel_rfl) (by kernel_rfl) (by kernel_rfl) hreg_panic (by rfl) hHeld ?_
              apply Exists.intro
              refine ⟨fun w' hw' => ?_, ?_⟩
              · have hf := hall w' hw'
                go_simp
                try go_bits
                exact yieldsV_mk rfl
              simp only [Act.put, List.setIfInBounds_toArray, List.set_cons_zero, List.set_cons_succ]
              refine hreg_take (i := 13) rfl (by kernel_rfl) (by kernel_rfl) (by kernel_rfl) hreg_panic (by rfl) hHeld ?_
              apply Exists.intro
              refine ⟨fun w' hw' => ?_, ?_⟩
              · have hf := hall w' hw'
                go_simp
                try go_bits
                exact yieldsV_mk rfl
              simp only [Act.put, List.setIfInBounds_toArray, List.set_cons_zero, List.set_cons_succ]
              refine hreg_take (i := 14) rfl (by kernel_rfl) (by kernel_rfl) (by kernel_rfl) hreg_panic (by rfl) hHeld ?_
              apply Exists.intro
              refine ⟨fun w' hw' => ?_, ?_⟩
              · have hf := hall w' hw'
                go_simp
                try go_bits
                exact yieldsV_mk rfl
              simp only [Act.put, List.setIfInBounds_toArray, List.set_cons_zero, List.set_cons_succ]
              refine hreg_take (i := 16) rfl (by kernel_rfl) (by kernel_rfl) (by kernel_rfl) hreg_panic (by rfl) hHeld ?_
              apply Exists.intro
              refine ⟨fun w' hw' => ?_, ?_⟩
              · have hf := hall w' hw'
                go_simp
                try go_bits
                exact yieldsV_mk rfl
              simp only [Act.put, List.setIfInBounds_toArray, List.set_cons_zero, List.set_cons_succ]
              refine hreg_take (i := 18) rfl (by kernel_rfl) (by kernel_rfl) (by kernel_rfl) hreg_panic (by rfl) hHeld ?_
              apply Exists.intro
              refine ⟨fun w' hw' => ?_, ?_⟩
              · have hf := hall w' hw'
                go_simp
                try go_bits
                exact yieldsV_mk rfl
              simp only [Act.put, List.setIfInBounds_toArray, List.set_cons_zero, List.set_cons_succ]
              refine hreg_take (i := 19) rfl (by kernel_rfl) (by kernel_rfl) (by kernel_rfl) hreg_panic (by rfl) hHeld ?_
              apply Exists.intro
              refine ⟨fun w' hw' => ?_, ?_⟩
              · have hf := hall w' hw'
                go_simp
                try go_bits
                exact yieldsV_mk rfl
              simp only [Act.put, List.setIfInBounds_toArray, List.set_cons_zero, List.set_cons_succ]
              refine wpAnyH_ready (rs := [15]) (by kernel_rfl) (by simp) ?_
              refine hreg_event (o := _) rfl (by rfl) (fun K hK => ?_) ?_
              · go_simp
                first
                  | (go_at_call 29; refine (D2.out _ hHeld).mono ?_; rintro e wn ⟨rfl, hb⟩)
                  | skip
                refine hK.out _ _ ?_ (fun hHeld' => ?_)
                · first
                    | exact hHeld.next hb
                    | exact hHeld
                    | exact hHeld.alloc _
                    | exact hHeld.setCell (by simp <;> omega) _
                    | exact (hHeld.alloc _).alloc _
                replace hHeld := hHeld'
                clear hHeld' hK K
                simp only [Act.put, List.setIfInBounds_toArray, List.set_cons_zero, List.set_cons_succ]
                refine wpAnyH_ready (rs := [17]) (by kernel_rfl) (by simp) ?_
                refine hreg_event (o := _) rfl (by rfl) (fun K hK => ?_) ?_
                · go_simp
                  first
                    | (go_at_call 26; refine (D4.out _ hHeld).mono ?_; rintro e wn ⟨a5, n5, c5, rfl, L5, _, hb⟩; replace L5 := Box.mk L5)
                    | skip
                  refine hK.out _ _ ?_ (fun hHeld' => ?_)
                  · first
                      | exact hHeld.next hb
                      | exact hHeld
                      | exact hHeld.alloc _
                      | exact hHeld.setCell (by simp <;> omega) _
                      | exact (hHeld.alloc _).alloc _
                  replace hHeld := hHeld'
                  clear hHeld' hK K
                  simp only [Act.put, List.setIfInBounds_toArray, List.set_cons_zero, List.set_cons_succ]
                  refine wpAnyH_ready (rs := [20]) (by kernel_rfl) (by simp) ?_
                  refine hreg_event (o := _) rfl (by rfl) (fun K hK => ?_) ?_
                  · go_simp
                    first
                      | (go_at_call 30; refine (D6.out _ _ _ _ L5.out).mono ?_; rintro e wn ⟨rfl, hb⟩)
                      | skip
                    refine hK.out _ _ ?_ (fun hHeld' => ?_)
                    · first
                        | exact hHeld.next hb
                        | exact hHeld
                        | exact hHeld.alloc _
                        | exact hHeld.setCell (by simp <;> omega) _
                        | exact (hHeld.alloc _).alloc _
                    replace hHeld := hHeld'
                    clear hHeld' hK K
                    simp only [Act.put, List.setIfInBounds_toArray, List.set_cons_zero, List.set_cons_succ]
                    refine hreg_take (i := 21) rfl (by kernel_rfl) (by kernel_rfl) (by kernel_rfl) hreg_panic (by rfl) hHeld ?_
                    apply Exists.intro
                    refine ⟨fun w' hw' => ?_, ?_⟩
                    · have hf := hall w' hw'
                      go_simp
                      try go_bits
                      exact yieldsV_mk rfl
                    simp only [Act.put, List.setIfInBounds_toArray, List.set_cons_zero, List.set_cons_succ]
                    refine hreg_take (i := 22) rfl (by kernel_rfl) (by kernel_rfl) (by kernel_rfl) hreg_panic (by rfl) hHeld ?_
                    apply Exists.intro
                    refine ⟨fun w' hw' => ?_, ?_⟩
                    · have hf := hall w' hw'
                      go_simp
                      try go_bits
                      exact yieldsV_mk rfl
                    simp only [Act.put, List.setIfInBounds_toArray, List.set_cons_zero, List.set_cons_succ]
                    refine hreg_take (i := 23) rfl (by kernel_rfl) (by kernel_rfl) (by kernel_rfl) hreg_panic (by rfl) hHeld ?_
                    apply Exists.intro
                    refine ⟨fun w' hw' => ?_, ?_⟩
                    · have hf := hall w' hw'
                      go_simp
                      try go_bits
                      exact yieldsV_mk rfl
                    simp only [Act.put, List.setIfInBounds_toArray, List.set_cons_zero, List.set_cons_succ]
                    refine hreg_take (i := 24) rfl (by kernel_rfl) (by kernel_rfl) (by kernel_rfl) hreg_panic (by rfl) hHeld ?_
                    apply Exists.intro
                    refine ⟨fun w' hw' => ?_, ?_⟩
                    · have hf := hall w' hw'
                      go_simp
                      try go_bits
                      exact yieldsV_mk rfl
                    simp only [Act.put, List.setIfInBounds_toArray, List.set_cons_zero, List.set_cons_succ]
                    refine hreg_take (i := 25) rfl (by kernel_rfl) (by kernel_rfl) (by kernel_rfl) hreg_panic (by rfl) hHeld ?_
                    apply Exists.intro
                    refine ⟨fun w' hw' => ?_, ?_⟩
                    · have hf := hall w' hw'
                      go_simp
                      try go_bits
                      exact yieldsV_mk rfl
                    simp only [Act.put, List.setIfInBounds_toArray, List.set_cons_zero, List.set_cons_succ]
                    refine hreg_take (i := 28) rfl (by kernel_rfl) (by kernel_rfl) (by kernel_rfl) hreg_panic (by rfl) hHeld ?_
                    apply Exists.intro
                    refine ⟨fun w' hw' => ?_, ?_⟩
                    · have hf := hall w' hw'
                      go_simp
                      try go_bits
                      exact yieldsV_mk rfl
                    simp only [Act.put, List.setIfInBounds_toArray, List.set_cons_zero, List.set_cons_succ]
                    refine hreg_take (i := 30) rfl (by kernel_rfl) (by kernel_rfl) (by kernel_rfl) hreg_panic (by rfl) hHeld ?_
                    apply Exists.intro
                    refine ⟨fun w' hw' => ?_, ?_⟩
                    · have hf := hall w' hw'
                      go_simp
                      try go_bits
                      exact yieldsV_mk rfl
                    simp only [Act.put, List.setIfInBounds_toArray, List.set_cons_zero, List.set_cons_succ]
                    refine wpAnyH_ready (rs := [26]) (by kernel_rfl) (by simp) ?_
                    refine hreg_event (o := _) rfl (by rfl) (fun K hK => ?_) ?_
                    · go_simp
                      first
                        | (go_at_call 31; refine (D3.out _ hHeld).mono ?_; rintro e wn ⟨a6, n6, c6, rfl, O6, hb⟩; have L6 := Box.mk O6.sl'.2; clear O6)
                        | skip
                      refine hK.out _ _ ?_ (fun hHeld' => ?_)
                      · first
                          | exact hHeld.next hb
                          | exact hHeld
                          | exact hHeld.alloc _
                          | exact hHeld.setCell (by simp <;> omega) _
                          | exact (hHeld.alloc _).alloc _
                      replace hHeld := hHeld'
                      clear hHeld' hK K
                      simp only [Act.put, List.setIfInBounds_toArray, List.set_cons_zero, List.set_cons_succ]
                      refine wpAnyH_ready (rs := [27]) (by kernel_rfl) (by simp) ?_
                      refine hreg_event (o := _) rfl (by rfl) (fun K hK => ?_) ?_
                      · go_simp
                        first
                          | (go_at_call 26; refine (E2.out _ _ _ _ L6.out).mono ?_; rintro e wn ⟨a7, n7, c7, rfl, L7, _, hb⟩; replace L7 := Box.mk L7)
                          | skip
                        refine hK.out _ _ ?_ (fun hHeld' => ?_)
                        · first
                            | exact hHeld.next hb
                            | exact hHeld
                            | exact hHeld.alloc _
                            | exact hHeld.setCell (by simp <;> omega) _
                            | exact (hHeld.alloc _).alloc _
                        replace hHeld := hHeld'
                        clear hHeld' hK K
                        simp only [Act.put, List.setIfInBounds_toArray, List.set_cons_zero, List.set_cons_succ]
                        refine wpAnyH_ready (rs := [29]) (by kernel_rfl) (by simp) ?_
                        refine hreg_event (o := _) rfl (by rfl) (fun K hK => ?_) ?_
                        · go_simp
                          first
                            | (go_at_call 26; refine (D4.out _ hHeld).mono ?_; rintro e wn ⟨a9, n9, c9, rfl, L9, _, hb⟩; replace L7 := Box.mk (L7.out.below hb); replace L9 := Box.mk L9)
                            | skip
                          refine hK.out _ _ ?_ (fun hHeld' => ?_)
                          · first
                              | exact hHeld.next hb
                              | exact hHeld
                              | exact hHeld.alloc _
                              | exact hHeld.setCell (by simp <;> omega) _
                              | exact (hHeld.alloc _).alloc _
                          replace hHeld := hHeld'
                          clear hHeld' hK K
                          simp only [Act.put, List.setIfInBounds_toArray, List.set_cons_zero, List.set_cons_succ]
                          refine wpAnyH_ready (rs := [31]) (by kernel_rfl) (by simp) ?_
                          refine hreg_event (o := _) rfl (by rfl) (fun K hK => ?_) ?_
                          · go_simp
                            first
                              | (go_at_call 32; refine (D7.out _ _ _ _ L9.out).mono ?_; rintro e wn ⟨aa, na, ca, rfl, La, _, hb⟩; replace L7 := Box.mk (L7.out.below hb); replace La := Box.mk La)
                              | skip
                            refine hK.out _ _ ?_ (fun hHeld' => ?_)
                            · first
                                | exact hHeld.next hb
                                | exact hHeld
                                | exact hHeld.alloc _
                                | exact hHeld.setCell (by simp <;> omega) _
                                | exact (hHeld.alloc _).alloc _
                            replace hHeld := hHeld'
                            clear hHeld' hK K
                            simp only [Act.put, List.setIfInBounds_toArray, List.set_cons_zero, List.set_cons_succ]
                            refine wpAnyH_ready (rs := [32]) (by kernel_rfl) (by simp) ?_
                            refine hreg_event (o := _) rfl (by rfl) (fun K hK => ?_) ?_
                            · go_simp
                              first
                                | (go_at_call 25; refine (E4.out _ _ _ _ _ _ _ L7.out La.out).mono ?_; rintro e wn ⟨rfl, hb⟩)
                                | skip
                              refine hK.out _ _ ?_ (fun hHeld' => ?_)
                              · first
                                  | exact hHeld.next hb
                                  | exact hHeld
                                  | exact hHeld.alloc _
                                  | exact hHeld.setCell (by simp <;> omega) _
                                  | exact (hHeld.alloc _).alloc _
                              replace hHeld := hHeld'
                              clear hHeld' hK K
                              simp only [Act.put, List.setIfInBounds_toArray, List.set_cons_zero, List.set_cons_succ]
                              refine hreg_take (i := 33) rfl (by kernel_rfl) (by kernel_rfl) (by kernel_rfl) hreg_panic (by rfl) hHeld ?_
                              apply Exists.intro
                              refine ⟨fun w' hw' => ?_, ?_⟩
                              · have hf := hall w' hw'
                                go_simp
                                try go_bits
                                exact yieldsV_mk rfl
                              simp only [Act.put, List.setIfInBounds_toArray, List.set_cons_zero, List.set_cons_succ]
                              refine hreg_take (i := 34) rfl (by kernel_rfl) (by kernel_rfl) (by kernel_rfl) hreg_panic (by rfl) hHeld ?_
                              apply Exists.intro
                              refine ⟨fun w' hw' => ?_, ?_⟩
                              · have hf := hall w' hw'
                                go_simp
                                try go_bits
                                exact yieldsV_mk rfl
                              simp only [Act.put, List.setIfInBounds_toArray, List.set_cons_zero, List.set_cons_succ]
                              refine wpAnyH_done (by kernel_rfl) ?_ _
                              refine NoPanic.normal ?_
                              go_wp2
                              go_ret
                              exact gives_bool rfl (hB8.trans (hHeld.out.mono (by omega)))
                            exact AllReadyH.nil
                          exact AllReadyH.nil
                        exact AllReadyH.nil
                      exact AllReadyH.nil
                    exact AllReadyH.nil
                  exact AllReadyH.nil
                exact AllReadyH.nil
              exact AllReadyH.nil
            exact AllReadyH.nil
          exact AllReadyH.nil
        exact AllReadyH.nil
      exact AllReadyH.nil
    exact AllReadyH.nil

end Go.Proofs.Ytghjpbmemogioaa
