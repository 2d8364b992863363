/- Layer 18: what is put again is there once, with its new time, as the last one. -/
import Derived.Test.YtghjpbmemogioaaRecentLaws
namespace Go.Proofs.Ytghjpbmemogioaa
open Go.RowKit
set_option linter.unusedVariables false
set_option linter.unusedSimpArgs false
attribute [local irreducible] Int.lt Int.le
attribute [local go_sem ↓] load_key store_key alloc_key build0_key eq_key build1_key load_it store_it alloc_it one_it make_it append_it build_it eq_it exec_clear load_rit store_rit alloc_rit one_rit make_rit append_rit build_rit eq_rit
attribute [local go_sem] rowOf_drew rowOf_alloc_old rowOf_alloc_new canPut_drew canPut_alloc_old canPut_alloc_new setCells_alloc_new

theorem putL_form (l : List ItemV) (k : Key) (now : Int) : ∃ Y, putL l k now = Y ++ [⟨k, now⟩] ∧ (∀ x ∈ Y, (x.id == k) = false) ∧ Y.length ≤ 4 := by
  unfold putL putA
  refine ⟨(l.filter fun x => !(x.id == k)).drop ((l.filter fun x => !(x.id == k)).length - 4), ?_, fun x hx => ?_, by rw [List.length_drop]; omega⟩
  · rw [List.length_append, List.length_singleton, show (l.filter fun x => !(x.id == k)).length + 1 - 5 = (l.filter fun x => !(x.id == k)).length - 4 from by omega, List.drop_append_of_le_length (by omega)]
  · have := (List.mem_filter.1 (List.mem_of_mem_drop hx)).2
    simpa using this
theorem hasB_append (l m : List ItemV) (k : Key) (now : Int) : hasB (l ++ m) k now = (hasB l k now || hasB m k now) := by rw [hasB_any, hasB_any, hasB_any, List.any_append]
theorem youngB_self (now : Int) (k : Key) : youngB now ⟨k, now⟩ = true := by
  rw [youngB_ge (by show ¬ now < now; omega)]
  show decide (IntKind.u64.wrap (now - now) < 60) = _
  rw [Int.sub_self, IntKind.wrap_u64]; rfl
theorem hasB_put (l : List ItemV) (k : Key) (now : Int) : hasB (putL l k now) k now = true := by
  obtain ⟨Y, h, _, _⟩ := putL_form l k now
  rw [h, hasB_append, hasB_cons, youngB_self]; simp

set_option maxRecDepth 100000 in
set_option maxHeartbeats 4000000 in
theorem recentTwice_walk (a : Option Addr) (n c : Nat) (l : List ItemV) (k : Key) (t u : Int) (W : World) (h : IL W a n c l) :
    Calls Try.prog 11 #[.slice a n c, .agg (keyC k).toArray, .int .u64 t, .int .u64 u] W (LawEnd W) := by
  have hl := Box.mk h.1
  have H := Box.mk h
  clear h
  by_cases hn : 200 < n
  · go_enter Try.func11, Try.ntmps11
    go_wp2_with fail
    refine (shown18 _).mono ?_
    rintro e w2 ⟨rfl, hb2⟩
    go_wp2
    go_ret
    exact gives_bool rfl (Below.of hb2 (by simp <;> omega) ((Below.refl _ _).alloc (Nat.le_refl _) _))
  · have hn2 : n ≤ 100000 := by omega
    go_enter Try.func11, Try.ntmps11
    go_wp2_with fail
    have hB0 : Below W.heap.size W (W.alloc (.cells (keyC k).toArray 40)) := (Below.refl _ _).alloc (Nat.le_refl _) _
    have hK0 : rowOf (W.alloc (.cells (keyC k).toArray 40)) W.heap.size 0 32 = some (keyC k) := rowOf_alloc_new _ _ _ _ _ _ rfl (keyC_length k)
    have hs0 : (W.alloc (.cells (keyC k).toArray 40)).heap.size = W.heap.size + 1 := by simp
    refine (shown18 _).mono ?_
    rintro e w8 ⟨rfl, hb8⟩
    have hK8 : rowOf w8 W.heap.size 0 32 = some (keyC k) := by rw [rowOf_congr (hb8.block _ (by omega))]; exact hK0
    have hs8 : W.heap.size < w8.heap.size := by have := hb8.size; omega
    have hB8 : Below W.heap.size W w8 := Below.of hb8 (by omega) hB0
    have H8 : Box (IL w8 a n c l) := Box.mk (H.out.below hB8)
    clear hb8 hK0 hs0 hB0
    go_wp2_with fail
    obtain ⟨tp, htp⟩ : ∃ b, putL l k t = b := ⟨_, rfl⟩
    have ltp : tp.length ≤ 5 := by rw [← htp]; exact putL_length _ _ _
    obtain ⟨Y, hY, hYk, hYl⟩ := putL_form tp k u
    have hHas := hasB_put tp k u
    have D1 := fun (w' : World) (h : SinceP w8 w') => put_any a n c l k t w' (H8.out.below h.out) hn2
    have D2 := fun (x : Option Addr) (y z : Nat) (w' : World) (h : IL w' x y z tp) => put_any x y z tp k u w' h (by have := h.1; omega)
    simp only [htp] at D1
    simp only [hY] at D2
    rw [hY] at hHas
    obtain ⟨m, hm⟩ : ∃ m, Y.length = m := ⟨_, rfl⟩
    have hm4 : m ≤ 4 := by omega
    obtain ⟨X, hX⟩ : ∃ X, Y ++ [(⟨k, u⟩ : ItemV)] = X := ⟨_, rfl⟩
    have hXl : X.length = m + 1 := by rw [← hX]; simp [hm]
    have hXa : ∀ (j : Nat) (v : ItemV), X[j]? = some v → j < m → (v.id == k) = false := fun j v hv hj => by
      rw [← hX, List.getElem?_append_left (by omega)] at hv
      exact hYk v (List.mem_of_getElem? hv)
    have hXz : X[m]? = some ⟨k, u⟩ := by rw [← hX, List.getElem?_append_right (by omega), hm, Nat.sub_self]; rfl
    simp only [hX] at D2 hHas
    replace D1 := Box.mk D1
    replace D2 := Box.mk D2
    replace htp := Box.mk htp
    replace ltp := Box.mk ltp
    replace hX := Box.mk hX
    replace hY := Box.mk hY
    replace hYk := Box.mk hYk
    replace hYl := Box.mk hYl
    replace hm := Box.mk hm
    replace hXa := Box.mk hXa
    replace hXz := Box.mk hXz
    replace hXl := Box.mk hXl
    replace hHas := Box.mk hHas
    have hall : ∀ w', SinceP w8 w' → (rowOf w' W.heap.size 0 32 = some (keyC k) ∧ W.heap.size < w'.heap.size) := fun w' h => ⟨by rw [rowOf_congr (h.out.block _ hs8)]; exact hK8, by have := h.out.size; omega⟩
    refine hreg_begin (S := SinceP w8) (by kernel_rfl) (SinceP.refl _).drew (fun hHeld => ?_)
    simp only [List.length_cons, List.length_nil, Nat.zero_add, Nat.reduceAdd, Array.replicate]
    refine hreg_take (i := 0) rfl (by kernel_rfl) (by kernel_rfl) (by kernel_rfl) hreg_panic (by rfl) hHeld ?_
    apply Exists.intro
    refine ⟨fun w' hw' => ?_, ?_⟩
    · have hf := hall w' hw'
      go_simp
      try go_bits
      exact yieldsV_mk rfl
    simp only [Act.put, List.setIfInBounds_toArray, List.set_cons_zero, List.set_cons_succ]
    refine hreg_take (i := 1) rfl (by kernel_rfl) (by kernel_rfl) (by kernel_rfl) hreg_panic (by rfl) hHeld ?_
    apply Exists.intro
    refine ⟨fun w' hw' => ?_, ?_⟩
    · have hf := hall w' hw'
      go_simp
      try go_bits
      exact yieldsV_mk rfl
    simp only [Act.put, List.setIfInBounds_toArray, List.set_cons_zero, List.set_cons_succ]
    refine hreg_take (i := 2) rfl (by kernel_rfl) (by kernel_rfl) (by kernel_rfl) hreg_panic (by rfl) hHeld ?_
    apply Exists.intro
    refine ⟨fun w' hw' => ?_, ?_⟩
    · have hf := hall w' hw'
      go_simp
      try go_bits
      exact yieldsV_mk rfl
    simp only [Act.put, List.setIfInBounds_toArray, List.set_cons_zero, List.set_cons_succ]
    refine hreg_take (i := 4) rfl (by kernel_rfl) (by kernel_rfl) (by kernel_rfl) hreg_panic (by rfl) hHeld ?_
    apply Exists.intro
    refine ⟨fun w' hw' => ?_, ?_⟩
    · have hf := hall w' hw'
      go_simp
      try go_bits
      exact yieldsV_mk rfl
    simp only [Act.put, List.setIfInBounds_toArray, List.set_cons_zero, List.set_cons_succ]
    refine hreg_take (i := 5) rfl (by kernel_rfl) (by kernel_rfl) (by kernel_rfl) hreg_panic (by rfl) hHeld ?_
    apply Exists.intro
    refine ⟨fun w' hw' => ?_, ?_⟩
    · have hf := hall w' hw'
      go_simp
      try go_bits
      exact yieldsV_mk rfl
    simp only [Act.put, List.setIfInBounds_toArray, List.set_cons_zero, List.set_cons_succ]
    refine wpAnyH_ready (rs := [3]) (by kernel_rfl) (by simp) ?_
    refine hreg_event (o := _) rfl (by rfl) (fun K hK => ?_) ?_
    · go_simp
      first
        | (go_at_call 27; refine (D1.out _ hHeld).mono ?_; rintro e wn ⟨a1, n1, rfl, L1, _, hb⟩; replace L1 := Box.mk L1)
        | skip
      refine hK.out _ _ ?_ (fun hHeld' => ?_)
      · first
          | exact hHeld.next hb
          | exact hHeld
          | exact hHeld.alloc _
          | exact hHeld.setCell (by simp <;> omega) _
          | exact (hHeld.alloc _).alloc _
      replace hHeld := hHeld'
      clear hHeld' hK K
      simp only [Act.put, List.setIfInBounds_toArray, List.set_cons_zero, List.set_cons_succ]
      refine wpAnyH_ready (rs := [6]) (by kernel_rfl) (by simp) ?_
      refine hreg_event (o := _) rfl (by rfl) (fun K hK => ?_) ?_
      · go_simp
        first
          | (go_at_call 27; refine (D2.out _ _ _ _ L1.out).mono ?_; rintro e wn ⟨a2, n2', rfl, L2, _, hb⟩; have hn2' : n2' = m + 1 := (L2.1.trans hXl.out); subst hn2'; replace L2 := Box.mk L2)
          | skip
        refine hK.out _ _ ?_ (fun hHeld' => ?_)
        · first
            | exact hHeld.next hb
            | exact hHeld
            | exact hHeld.alloc _
            | exact hHeld.setCell (by simp <;> omega) _
            | exact (hHeld.alloc _).alloc _
        replace hHeld := hHeld'
        clear hHeld' hK K
        simp only [Act.put, List.setIfInBounds_toArray, List.set_cons_zero, List.set_cons_succ]
        refine hreg_take (i := 7) rfl (by kernel_rfl) (by kernel_rfl) (by kernel_rfl) hreg_panic (by rfl) hHeld ?_
        apply Exists.intro
        refine ⟨fun w' hw' => ?_, ?_⟩
        · have hf := hall w' hw'
          go_simp
          try go_bits
          exact yieldsV_mk rfl
        simp only [Act.put, List.setIfInBounds_toArray, List.set_cons_zero, List.set_cons_succ]
        refine wpAnyH_done (by kernel_rfl) ?_ _
        refine NoPanic.normal ?_
        have hB9 := hB8.trans (hHeld.out.mono (by omega))
        obtain ⟨hK9, hs9⟩ := hall _ hHeld
        obtain ⟨b, o, rfl, hb2, hrz⟩ := SL.elem itC_length L2.out hXz.out
        clear hall hHeld hK8
        replace hrz := Box.mk hrz
        go_wp2_with fail
        go_loopw [10, 11] (fun s10 s11 wr => Below wn.heap.size wn wr ∧ ∃ j : Nat, j ≤ m + 1 ∧ s11 = .int .i64 j ∧ s10 = .int .i64 (if j ≤ m then 0 else 1)) (fun _ s11 _ => m + 1 - (intOf s11).toNat)
        case atStart => exact ⟨Below.refl _ _, 0, Nat.zero_le _, rfl, rfl⟩
        case round =>
          obtain ⟨hbr, j, hj, rfl, rfl⟩ := hrel
          have hsz := hbr.size
          have K1 : rowOf wr W.heap.size 0 32 = some (keyC k) := by rw [rowOf_congr (hbr.block _ hs9)]; exact hK9
          have s2 : W.heap.size < wr.heap.size := by omega
          by_cases hlt : j < m + 1
          · have hlt' : (j : Int) < (m : Int) + 1 := by omega
            have hjl : j < X.length := by rw [hXl.out]; exact hlt
            have hx : X[j]? = some X[j] := List.getElem?_eq_getElem hjl
            obtain ⟨b', o', he, hb', hr⟩ := SL.elem itC_length L2.out hx
            injection he with he
            injection he with he1 he2
            subst he1 he2
            have R1 : rowOf wr b (o + j * 33) 33 = some (itC X[j]) := by rw [rowOf_congr (hbr.block b hb2)]; exact hr
            have s1 : b < wr.heap.size := by omega
            have hid : (X[j].id == k) = decide (j = m) := by
              by_cases e : j = m
              · rw [hx.symm.trans (by rw [e]; exact hXz.out) |> Option.some.inj]; simp [e]
              · rw [hXa.out j _ hx (by omega)]; simp [e]
            generalize X[j] = v at *
            obtain ⟨F1, F2⟩ := it_at R1
            replace R1 := Box.mk R1
            replace F2 := Box.mk F2
            replace hx := Box.mk hx
            replace hr := Box.mk hr
            by_cases e : j = m
            · rw [decide_eq_true e] at hid
              subst e
              rw [if_pos (Nat.le_refl _)]
              go_wp2_with fail
              (refine region_since (by kernel_rfl) (by kernel_rfl) ?_)
              repeat (first
                | (refine wpQuiet_goff rfl rfl rfl rfl ?_; simp only [Act.put, List.setIfInBounds_toArray, List.set_cons_succ, List.set_cons_zero])
                | (first
                     | refine wpQuiet_free rfl ?_
                     | refine wpQuiet_gon rfl rfl rfl rfl ?_
                   apply Exists.intro
                   refine ⟨fun w' hw' => ?_, ?_⟩
                   · (obtain ⟨hc', hr', hs'⟩ := since_facts hw'
                      unfold Oper.quietAt
                      go_simp
                      try go_bits
                      first
                        | exact quietUpon_value rfl
                        | (apply quietUpon_enter
                           first
                           | fail))
                   simp only [Act.put, List.setIfInBounds_toArray, List.set_cons_succ, List.set_cons_zero]))
              first
                | refine wpQuiet_nil ?_
                | fail "QUIET stopped"
              intro wq hwq'
              go_wp2
              go_roundw
              case rel => exact ⟨since_next hbr hwq', j + 1, by omega, by go_num, by rw [if_neg (by omega)]⟩
              case measure => simp [intOf] <;> omega
            · rw [decide_eq_false e] at hid
              have hjm : j < m := by omega
              rw [if_pos (by omega)]
              go_wp2_with fail
              (refine region_since (by kernel_rfl) (by kernel_rfl) ?_)
              repeat (first
                | (refine wpQuiet_goff rfl rfl rfl rfl ?_; simp only [Act.put, List.setIfInBounds_toArray, List.set_cons_succ, List.set_cons_zero])
                | (first
                     | refine wpQuiet_free rfl ?_
                     | refine wpQuiet_gon rfl rfl rfl rfl ?_
                   apply Exists.intro
                   refine ⟨fun w' hw' => ?_, ?_⟩
                   · (obtain ⟨hc', hr', hs'⟩ := since_facts hw'
                      unfold Oper.quietAt
                      go_simp
                      try go_bits
                      first
                        | exact quietUpon_value rfl
                        | (apply quietUpon_enter
                           first
                           | fail))
                   simp only [Act.put, List.setIfInBounds_toArray, List.set_cons_succ, List.set_cons_zero]))
              first
                | refine wpQuiet_nil ?_
                | fail "QUIET stopped"
              intro wq hwq'
              go_wp2
              go_roundw
              case rel => exact ⟨since_next hbr hwq', j + 1, by omega, by go_num, by rw [if_pos (by omega)]⟩
              case measure => simp [intOf]; omega
          · obtain rfl : j = m + 1 := by omega
            rw [if_neg (by omega)]
            have hB7 := hB9.trans (hbr.mono (by have := hB9.size; omega))
            obtain ⟨w7, hw7⟩ : ∃ w7, w7 = wr := ⟨_, rfl⟩
            subst hw7
            have R1 : rowOf w7 b (o + m * 33) 33 = some (itC ⟨k, u⟩) := by rw [rowOf_congr (hbr.block b hb2)]; exact hrz.out
            have s1 : b < w7.heap.size := by omega
            have hm5 : (m : Int) + 1 ≤ 5 := by omega
            have hm6 : (m : Int) < (m : Int) + 1 := by omega
            have hself := itB_self ⟨k, u⟩
            have D3 := fun (w' : World) (h : SinceP w7 w') => has_any (some ⟨b, o, none⟩) (m + 1) (m + 1) X k u w' (L2.out.below (hbr.trans (h.out.mono hsz))) (by omega)
            rw [hHas.out] at D3
            have D4 := fun (w' : World) (h : SinceP w7 w') => old_any none 0 0 [] t w' (SL.nil _ _ _) (by omega)
            replace D3 := Box.mk D3
            replace D4 := Box.mk D4
            have hall : ∀ w', SinceP w7 w' → (rowOf w' W.heap.size 0 32 = some (keyC k) ∧ W.heap.size < w'.heap.size ∧ rowOf w' b (o + m * 33) 33 = some (itC ⟨k, u⟩) ∧ b < w'.heap.size) := fun w' h => ⟨by rw [rowOf_congr (h.out.block _ s2)]; exact K1, by have := h.out.size; omega, by rw [rowOf_congr (h.out.block _ s1)]; exact R1, by have := h.out.size; omega⟩
            clear K1 R1
            go_wp2_with fail
            refine hreg_begin (S := SinceP w7) (by kernel_rfl) (SinceP.refl _).drew (fun hHeld => ?_)
            simp only [List.length_cons, List.length_nil, Nat.zero_add, Nat.reduceAdd, Array.replicate]
            refine hreg_take (i := 0) rfl (by kernel_rfl) (by kernel_rfl) (by kernel_rfl) hreg_panic (by rfl) hHeld ?_
            apply Exists.intro
            refine ⟨fun w' hw' => ?_, ?_⟩
            · have hf := hall w' hw'
              go_simp
              try go_bits
              exact yieldsV_mk rfl
            simp only [Act.put, List.setIfInBounds_toArray, List.set_cons_zero, List.set_cons_succ]
            refine hreg_take (i := 1) rfl (by kernel_rfl) (by kernel_rfl) (by kernel_rfl) hreg_panic (by rfl) hHeld ?_
            apply Exists.intro
            refine ⟨fun w' hw' => ?_, ?_⟩
            · have hf := hall w' hw'
              go_simp
              try go_bits
              exact yieldsV_mk rfl
            simp only [Act.put, List.setIfInBounds_toArray, List.set_cons_zero, List.set_cons_succ]
            refine hreg_take (i := 2) rfl (by kernel_rfl) (by kernel_rfl) (by kernel_rfl) hreg_panic (by rfl) hHeld ?_
            apply Exists.intro
            refine ⟨fun w' hw' => ?_, ?_⟩
            · have hf := hall w' hw'
              go_simp
              try go_bits
              exact yieldsV_mk rfl
            simp only [Act.put, List.setIfInBounds_toArray, List.set_cons_zero, List.set_cons_succ]
            refine hreg_take (i := 3) rfl (by kernel_rfl) (by kernel_rfl) (by kernel_rfl) hreg_panic (by rfl) hHeld ?_
            apply Exists.intro
            refine ⟨fun w' hw' => ?_, ?_⟩
            · have hf := hall w' hw'
              go_simp
              try go_bits
              exact yieldsV_mk rfl
            simp only [Act.put, List.setIfInBounds_toArray, List.set_cons_zero, List.set_cons_succ]
            refine hreg_take (i := 4) rfl (by kernel_rfl) (by kernel_rfl) (by kernel_rfl) hreg_panic (by rfl) hHeld ?_
            apply Exists.intro
            refine ⟨fun w' hw' => ?_, ?_⟩
            · have hf := hall w' hw'
              go_simp
              try go_bits
              exact yieldsV_mk rfl
            simp only [Act.put, List.setIfInBounds_toArray, List.set_cons_zero, List.set_cons_succ]
            refine hreg_take (i := 5) rfl (by kernel_rfl) (by kernel_rfl) (by kernel_rfl) hreg_panic (by rfl) hHeld ?_
            apply Exists.intro
            refine ⟨fun w' hw' => ?_, ?_⟩
            · have hf := hall w' hw'
              go_simp
              try go_bits
              exact yieldsV_mk rfl
            simp only [Act.put, List.setIfInBounds_toArray, List.set_cons_zero, List.set_cons_succ]
            refine hreg_take (i := 6) rfl (by kernel_rfl) (by kernel_rfl) (by kernel_rfl) hreg_panic (by rfl) hHeld ?_
            apply Exists.intro
            refine ⟨fun w' hw' => ?_, ?_⟩
            · have hf := hall w' hw'
              go_simp
              try go_bits
              exact yieldsV_mk rfl
            simp only [Act.put, List.setIfInBounds_toArray, List.set_cons_zero, List.set_cons_succ]
            refine hreg_take (i := 7) rfl (by kernel_rfl) (by kernel_rfl) (by kernel_rfl) hreg_panic (by rfl) hHeld ?_
            apply Exists.intro
            refine ⟨fun w' hw' => ?_, ?_⟩
            · have hf := hall w' hw'
              go_simp
              try go_bits
              exact yieldsV_mk rfl
            simp only [Act.put, List.setIfInBounds_toArray, List.set_cons_zero, List.set_cons_succ]
            refine hreg_take (i := 8) rfl (by kernel_rfl) (by kernel_rfl) (by kernel_rfl) hreg_panic (by rfl) hHeld ?_
            apply Exists.intro
            refine ⟨fun w' hw' => ?_, ?_⟩
            · have hf := hall w' hw'
              go_simp
              try go_bits
              exact yieldsV_mk rfl
            simp only [Act.put, List.setIfInBounds_toArray, List.set_cons_zero, List.set_cons_succ]
            refine hreg_take (i := 9) rfl (by kernel_rfl) (by kernel_rfl) (by kernel_rfl) hreg_panic (by rfl) hHeld ?_
            apply Exists.intro
            refine ⟨fun w' hw' => ?_, ?_⟩
            · have hf := hall w' hw'
              go_simp
              try go_bits
              exact yieldsV_mk rfl
            simp only [Act.put, List.setIfInBounds_toArray, List.set_cons_zero, List.set_cons_succ]
            refine hreg_take (i := 10) rfl (by kernel_rfl) (by kernel_rfl) (by kernel_rfl) hreg_panic (by rfl) hHeld ?_
            apply Exists.intro
            refine ⟨fun w' hw' => ?_, ?_⟩
            · have hf := hall w' hw'
              go_simp
              try go_bits
              exact yieldsV_mk rfl
            simp only [Act.put, List.setIfInBounds_toArray, List.set_cons_zero, List.set_cons_succ]
            refine hreg_take (i := 11) rfl (by kernel_rfl) (by kernel_rfl) (by kernel_rfl) hreg_panic (by rfl) hHeld ?_
            apply Exists.intro
            refine ⟨fun w' hw' => ?_, ?_⟩
            · have hf := hall w' hw'
              go_simp
              try go_bits
              exact yieldsV_mk rfl
            simp only [Act.put, List.setIfInBounds_toArray, List.set_cons_zero, List.set_cons_succ]
            refine hreg_take (i := 12) rfl (by kernel_rfl) (by kernel_rfl) (by kernel_rfl) hreg_panic (by rfl) hHeld ?_
            apply Exists.intro
            refine ⟨fun w' hw' => ?_, ?_⟩
            · have hf := hall w' hw'
              go_simp
              try go_bits
              exact yieldsV_mk rfl
            simp only [Act.put, List.setIfInBounds_toArray, List.set_cons_zero, List.set_cons_succ]
            refine hreg_take (i := 13) rfl (by kernel_rfl) (by kernel_rfl) (by kernel_rfl) hreg_panic (by rfl) hHeld ?_
            apply Exists.intro
            refine ⟨fun w' hw' => ?_, ?_⟩
            · have hf := hall w' hw'
              go_simp
              try go_bits
              exact yieldsV_mk rfl
            simp only [Act.put, List.setIfInBounds_toArray, List.set_cons_zero, List.set_cons_succ]
            refine hreg_take (i := 14) rfl (by kernel_rfl) (by kernel_rfl) (by kernel_rfl) hreg_panic (by rfl) hHeld ?_
            apply Exists.intro
            refine ⟨fun w' hw' => ?_, ?_⟩
            · have hf := hall w' hw'
              go_simp
              try go_bits
              exact yieldsV_mk rfl
            simp only [Act.put, List.setIfInBounds_toArray, List.set_cons_zero, List.set_cons_succ]
            refine hreg_take (i := 15) rfl (by kernel_rfl) (by kernel_rfl) (by kernel_rfl) hreg_panic (by rfl) hHeld ?_
            apply Exists.intro
            refine ⟨fun w' hw' => ?_, ?_⟩
            · have hf := hall w' hw'
              go_simp
              try go_bits
              exact yieldsV_mk rfl
            simp only [Act.put, List.setIfInBounds_toArray, List.set_cons_zero, List.set_cons_succ]
            refine hreg_take (i := 16) rfl (by kernel_rfl) (by kernel_rfl) (by kernel_rfl) hreg_panic (by rfl) hHeld ?_
            apply Exists.intro
            refine ⟨fun w' hw' => ?_, ?_⟩
            · have hf := hall w' hw'
              go_simp
              try go_bits
              exact yieldsV_mk rfl
            simp only [Act.put, List.setIfInBounds_toArray, List.set_cons_zero, List.set_cons_succ]
            refine hreg_take (i := 17) rfl (by kernel_rfl) (by kernel_rfl) (by kernel_rfl) hreg_panic (by rfl) hHeld ?_
            apply Exists.intro
            refine ⟨fun w' hw' => ?_, ?_⟩
            · have hf := hall w' hw'
              go_simp
              try go_bits
              exact yieldsV_mk rfl
            simp only [Act.put, List.setIfInBounds_toArray, List.set_cons_zero, List.set_cons_succ]
            refine hreg_take (i := 18) rfl (by kernel_rfl) (by kernel_rfl) (by kernel_rfl) hreg_panic (by rfl) hHeld ?_
            apply Exists.intro
            refine ⟨fun w' hw' => ?_, ?_⟩
            · have hf := hall w' hw'
              go_simp
              try go_bits
              exact yieldsV_mk rfl
            simp only [Act.put, List.setIfInBounds_toArray, List.set_cons_zero, List.set_cons_succ]
            refine hreg_take (i := 19) rfl (by kernel_rfl) (by kernel_rfl) (by kernel_rfl) hreg_panic (by rfl) hHeld ?_
            apply Exists.intro
            refine ⟨fun w' hw' => ?_, ?_⟩
            · have hf := hall w' hw'
              go_simp
              try go_bits
              exact yieldsV_mk rfl
            simp only [Act.put, List.setIfInBounds_toArray, List.set_cons_zero, List.set_cons_succ]
            refine hreg_take (i := 20) rfl (by kernel_rfl) (by kernel_rfl) (by kernel_rfl) hreg_panic (by rfl) hHeld ?_
            apply Exists.intro
            refine ⟨fun w' hw' => ?_, ?_⟩
            · have hf := hall w' hw'
              go_simp
              try go_bits
              exact yieldsV_mk rfl
            simp only [Act.put, List.setIfInBounds_toArray, List.set_cons_zero, List.set_cons_succ]
            refine hreg_take (i := 21) rfl (by kernel_rfl) (by kernel_rfl) (by kernel_rfl) hreg_panic (by rfl) hHeld ?_
            apply Exists.intro
            refine ⟨fun w' hw' => ?_, ?_⟩
            · have hf := hall w' hw'
              go_simp
              try go_bits
              exact yieldsV_mk rfl
            simp only [Act.put, List.setIfInBounds_toArray, List.set_cons_zero, List.set_cons_succ]
            refine hreg_take (i := 22) rfl (by kernel_rfl) (by kernel_rfl) (by kernel_rfl) hreg_panic (by rfl) hHeld ?_
            apply Exists.intro
            refine ⟨fun w' hw' => ?_, ?_⟩
            · have hf := hall w' hw'
              go_simp
              try go_bits
              exact yieldsV_mk rfl
            simp only [Act.put, List.setIfInBounds_toArray, List.set_cons_zero, List.set_cons_succ]
            refine wpAnyH_ready (rs := [23]) (by kernel_rfl) (by simp) ?_
            refine hreg_event (o := _) rfl (by rfl) (fun K hK => ?_) ?_
            · go_simp
              first
                | (go_at_call 29; refine (D3.out _ hHeld).mono ?_; rintro e wn ⟨rfl, hb⟩)
                | (go_at_call 31; refine (D4.out _ hHeld).mono ?_; rintro e wn ⟨a6, n6, c6, rfl, O6, hb⟩; have h6 := O6.sl'.1; replace h6 : n6 = 0 := h6; subst h6; clear O6)
                | skip
              refine hK.out _ _ ?_ (fun hHeld' => ?_)
              · first
                  | exact hHeld.next hb
                  | exact hHeld
                  | exact hHeld.alloc _
                  | exact hHeld.setCell (by simp <;> omega) _
                  | exact (hHeld.alloc _).alloc _
              replace hHeld := hHeld'
              clear hHeld' hK K
              simp only [Act.put, List.setIfInBounds_toArray, List.set_cons_zero, List.set_cons_succ]
              refine hreg_take (i := 24) rfl (by kernel_rfl) (by kernel_rfl) (by kernel_rfl) hreg_panic (by rfl) hHeld ?_
              apply Exists.intro
              refine ⟨fun w' hw' => ?_, ?_⟩
              · have hf := hall w' hw'
                go_simp
                try go_bits
                exact yieldsV_mk rfl
              simp only [Act.put, List.setIfInBounds_toArray, List.set_cons_zero, List.set_cons_succ]
              refine hreg_take (i := 25) rfl (by kernel_rfl) (by kernel_rfl) (by kernel_rfl) hreg_panic (by rfl) hHeld ?_
              apply Exists.intro
              refine ⟨fun w' hw' => ?_, ?_⟩
              · have hf := hall w' hw'
                go_simp
                try go_bits
                exact yieldsV_mk rfl
              simp only [Act.put, List.setIfInBounds_toArray, List.set_cons_zero, List.set_cons_succ]
              refine hreg_take (i := 26) rfl (by kernel_rfl) (by kernel_rfl) (by kernel_rfl) hreg_panic (by rfl) hHeld ?_
              apply Exists.intro
              refine ⟨fun w' hw' => ?_, ?_⟩
              · have hf := hall w' hw'
                go_simp
                try go_bits
                exact yieldsV_mk rfl
              simp only [Act.put, List.setIfInBounds_toArray, List.set_cons_zero, List.set_cons_succ]
              refine wpAnyH_ready (rs := [27]) (by kernel_rfl) (by simp) ?_
              refine hreg_event (o := _) rfl (by rfl) (fun K hK => ?_) ?_
              · go_simp
                first
                  | (go_at_call 29; refine (D3.out _ hHeld).mono ?_; rintro e wn ⟨rfl, hb⟩)
                  | (go_at_call 31; refine (D4.out _ hHeld).mono ?_; rintro e wn ⟨a6, n6, c6, rfl, O6, hb⟩; have h6 := O6.sl'.1; replace h6 : n6 = 0 := h6; subst h6; clear O6)
                  | skip
                refine hK.out _ _ ?_ (fun hHeld' => ?_)
                · first
                    | exact hHeld.next hb
                    | exact hHeld
                    | exact hHeld.alloc _
                    | exact hHeld.setCell (by simp <;> omega) _
                    | exact (hHeld.alloc _).alloc _
                replace hHeld := hHeld'
                clear hHeld' hK K
                simp only [Act.put, List.setIfInBounds_toArray, List.set_cons_zero, List.set_cons_succ]
                refine hreg_take (i := 28) rfl (by kernel_rfl) (by kernel_rfl) (by kernel_rfl) hreg_panic (by rfl) hHeld ?_
                apply Exists.intro
                refine ⟨fun w' hw' => ?_, ?_⟩
                · have hf := hall w' hw'
                  go_simp
                  try go_bits
                  exact yieldsV_mk rfl
                simp only [Act.put, List.setIfInBounds_toArray, List.set_cons_zero, List.set_cons_succ]
                refine hreg_take (i := 29) rfl (by kernel_rfl) (by kernel_rfl) (by kernel_rfl) hreg_panic (by rfl) hHeld ?_
                apply Exists.intro
                refine ⟨fun w' hw' => ?_, ?_⟩
                · have hf := hall w' hw'
                  go_simp
                  try go_bits
                  exact yieldsV_mk rfl
                simp only [Act.put, List.setIfInBounds_toArray, List.set_cons_zero, List.set_cons_succ]
                refine hreg_take (i := 30) rfl (by kernel_rfl) (by kernel_rfl) (by kernel_rfl) hreg_panic (by rfl) hHeld ?_
                apply Exists.intro
                refine ⟨fun w' hw' => ?_, ?_⟩
                · have hf := hall w' hw'
                  go_simp
                  try go_bits
                  exact yieldsV_mk rfl
                simp only [Act.put, List.setIfInBounds_toArray, List.set_cons_zero, List.set_cons_succ]
                refine hreg_take (i := 31) rfl (by kernel_rfl) (by kernel_rfl) (by kernel_rfl) hreg_panic (by rfl) hHeld ?_
                apply Exists.intro
                refine ⟨fun w' hw' => ?_, ?_⟩
                · have hf := hall w' hw'
                  go_simp
                  try go_bits
                  exact yieldsV_mk rfl
                simp only [Act.put, List.setIfInBounds_toArray, List.set_cons_zero, List.set_cons_succ]
                refine wpAnyH_done (by kernel_rfl) ?_ _
                refine NoPanic.normal ?_
                go_wp2
                go_ret
                exact gives_bool rfl (hB7.trans (hHeld.out.mono (by omega)))
              exact AllReadyH.nil
            exact AllReadyH.nil
      exact AllReadyH.nil
    exact AllReadyH.nil

end Go.Proofs.Ytghjpbmemogioaa
