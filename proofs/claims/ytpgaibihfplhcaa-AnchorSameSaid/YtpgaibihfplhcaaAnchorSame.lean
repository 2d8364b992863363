/- Layer 8: a root that is put twice is there as long as its last place. -/
import Derived.Test.YtpgaibihfplhcaaAnchorOld
namespace Go.Proofs.Ytpgaibihfplhcaa
open Go.RowKit
set_option linter.unusedVariables false
set_option linter.unusedSimpArgs false
attribute [local go_sem ↓] load_key store_key alloc_key build0_key one_key make_key copy_key append_key eq_key build1_key build2_key
attribute [local go_sem] rowOf_drew rowOf_alloc_old rowOf_alloc_new canPut_drew canPut_alloc_old canPut_alloc_new setCells_alloc_new

theorem anyK_drop {Z : List Key} {k : Key} (h : anyK Z k = false) (i : Nat) : anyK (Z.drop i) k = false := by
  unfold anyK at *
  rw [Bool.eq_false_iff] at *
  intro h'
  obtain ⟨x, hx, he⟩ := List.any_eq_true.1 h'
  exact h (List.any_eq_true.2 ⟨x, List.mem_of_mem_drop hx, he⟩)
theorem key_eq {x k : Key} (h : (x == k) = true) : x = k := by simpa using h
theorem anyK_append (Z : List Key) (x k : Key) : anyK (Z ++ [x]) k = (anyK Z k || (x == k)) := by unfold anyK; simp
theorem hasB_since (k : Key) (Y Z : List Key) (h : anyK Z k = false) : hasB (ringL (Y ++ k :: Z)) k = decide ((Z.length : Int) < 4) := by
  rw [hasB_ringL]
  unfold lastN
  rcases Nat.lt_or_ge Z.length 4 with hl | hl
  · rw [decide_eq_true (by omega)]
    unfold anyK
    rw [List.drop_append_of_le_length (by simp; omega)]
    simp
  · rw [decide_eq_false (by omega)]
    rw [show (Y ++ k :: Z).length - 4 = Y.length + (1 + (Z.length - 4)) from by simp; omega, ← List.drop_drop, List.drop_left, ← List.drop_drop, List.drop_one, List.tail_cons]
    exact anyK_drop h _

set_option maxHeartbeats 1000000 in
theorem anchorSame_walk (k : Key) (a : Option Addr) (n c : Nat) (l : List Key) (G : Nat) (hG : G ≤ 255) (W : World) (h : KS W a n c l) : Calls Try.prog 4 #[.agg (keyC k).toArray, .slice a n c, .int .u8 G] W (LawEnd W) := by
  have HN := Lib.hid h.1
  by_cases hn : 60 < n
  · clear h
    go_enter Try.func4, Try.ntmps4
    go_wp2_with fail
    refine (shown08 _).mono ?_
    rintro e w2 ⟨rfl, hb2⟩
    go_wp2
    go_ret
    exact gives_bool rfl (Below.of hb2 (by simp) ((Below.refl _ _).alloc (by simp) _))
  · have hcap := h.2.1
    go_enter Try.func4, Try.ntmps4
    go_wp2_with fail
    have S0 := ((Held.start W 32).row (keyC k) 23 (keyC_length k))
    refine (shown08 _).mono ?_
    rintro e w1 ⟨rfl, hb1⟩
    have hl1 := SL.below (SL.alloc h _) hb1
    try clear hcells hrows
    replace S0 := Held.to S0 hb1
    have hcells := Held.cells S0
    have hrows := Held.rows S0
    simp only [CF, RF, World.size_alloc] at hcells hrows
    go_wp2_with fail
    refine (new_n k _).mono ?_
    rintro e w2 ⟨a2, n2, c2, rfl, hk2, hb2, hf2, hn2, -, -⟩
    try clear hcells hrows
    replace S0 := Held.to S0 hb2
    have hcells := Held.cells S0
    have hrows := Held.rows S0
    simp only [CF, RF, World.size_alloc] at hcells hrows
    replace hn2 := Lib.hid hn2
    go_wp2_with fail
    replace S0 := S0.cell (.slice a2 n2 c2) 27
    obtain ⟨W3, hW3⟩ : ∃ W3, W3 = w2.alloc (.cells #[.slice a2 n2 c2] 27) := ⟨_, rfl⟩
    rw [← hW3] at S0 ⊢
    have hR0 : RingAt w2.heap.size W3 a2 n2 c2 (ringL [k]) := by
      subst hW3
      exact ⟨by simp, by simp [go_sem], by simp [go_sem], SL.alloc hk2 _, KS.apart_new hk2 (by simp)⟩
    have hsz3 : w2.heap.size ≤ W3.heap.size := by rw [hW3]; simp
    have hrk : rowOf W3 W.heap.size 0 32 = some (keyC k) := by have := S0.rows; exact this.1.2
    have hlt2 : W.heap.size < w2.heap.size := hrows.1.1
    have hbW := S0.below
    replace hW3 := Lib.hid hW3
    clear hcells hrows S0 hl1 hk2 hf2 hb1 hb2
    generalize w2.heap.size = rb at *
    have H := Lib.hid h
    clear h
    go_loopw [8] (fun i wr => SinceB rb W3 wr ∧ ∃ j : Nat, j ≤ G % 4 ∧ i = .int .i64 j ∧ ∃ a' n' c' X, RingAt rb wr a' n' c' (ringL (k :: X))) (fun i _ => G % 4 - (intOf i).toNat)
    case atStart => exact ⟨SinceB.refl hsz3, 0, Nat.zero_le _, rfl, _, _, _, [], hR0⟩
    case round =>
      obtain ⟨hSB, j, hj, rfl, a', n', c', X, hR⟩ := hrel
      have hszr := hSB.size
      have C0 := hR.cell
      have C1 := hR.frozen
      have C2 := hR.lt
      have hj4 : j < 4 := by omega
      have hj256 : j < 256 := by omega
      have hn8 : n' ≤ 100000 := by have := hR.keys.1; have := ringL_le (k :: X); omega
      by_cases hlt : j < G % 4
      · go_wp2_with fail
        refine (put_n a' n' c' _ (key2 77 (UInt8.ofNat j)) _ hR.keys hn8).mono ?_
        rintro e wn ⟨ap, np, cp, rfl, hkp, hb, hfp, hnp, -, -⟩
        have hRn := hR.below hb
        have E0 := hRn.cell
        have E1 := hRn.frozen
        have E2 := hRn.lt
        replace hnp := Lib.hid hnp
        go_wp2
        go_roundw
        case rel => exact ⟨(hSB.next hb).setCell (Nat.le_refl _) _, j + 1, by omega, by go_num, _, _, _, X ++ [key2 77 (UInt8.ofNat j)], by have := hR.store hb hkp hfp; rw [putL_ringL] at this; exact this⟩
        case measure => simp [intOf]; omega
      · obtain rfl : j = G % 4 := by omega
        have R0 : rowOf wr W.heap.size 0 32 = some (keyC k) := hSB.row hlt2 hrk
        have hs0 : W.heap.size < wr.heap.size := by omega
        go_wp2_with fail
        refine (put_n a' n' c' _ k _ hR.keys hn8).mono ?_
        rintro e wn ⟨ap, np, cp, rfl, hkp, hb, hfp, hnp, -, -⟩
        have hRn := hR.below hb
        have E0 := hRn.cell
        have E1 := hRn.frozen
        have E2 := hRn.lt
        replace hnp := Lib.hid hnp
        go_wp2_with fail
        have hSB2 := (hSB.next hb).setCell (Nat.le_refl rb) (.slice ap np cp) (o := 0)
        have hR2 := hR.store hb hkp hfp
        rw [putL_ringL, List.cons_append] at hR2
        obtain ⟨W5, hW5⟩ : ∃ W5, W5 = wn.setCell ⟨rb, 0, none⟩ (.slice ap np cp) := ⟨_, rfl⟩
        rw [← hW5] at hR2 hSB2 ⊢
        replace hW5 := Lib.hid hW5
        clear hSB hR C0 C1 C2 R0 hs0 hRn E0 E1 E2 hkp hfp hn8 hszr hb
        go_loopw [9, 10] (fun m i wr => SinceB rb W3 wr ∧ ∃ j : Nat, j ≤ n ∧ i = .int .i64 j ∧ ∃ a' n' c' Y Z, m = .int .i64 (List.length (α := Key) Z) ∧ anyK Z k = false ∧ Z.length ≤ j ∧ RingAt rb wr a' n' c' (ringL (Y ++ k :: Z))) (fun _ i _ => n - (intOf i).toNat)
        case atStart => exact ⟨hSB2, 0, Nat.zero_le _, rfl, _, _, _, k :: X, [], rfl, rfl, Nat.le_refl _, hR2⟩
        case round =>
          obtain ⟨hSB, j, hj, rfl, a', n', c', Y, Z, rfl, hZ, hZj, hR⟩ := hrel
          have hszr := hSB.size
          have C0 := hR.cell
          have C1 := hR.frozen
          have C2 := hR.lt
          have R1 : rowOf wr W.heap.size 0 32 = some (keyC k) := hSB.row hlt2 hrk
          have hs1 : W.heap.size < wr.heap.size := by omega
          have hn8 : n' ≤ 100000 := by have := hR.keys.1; have := ringL_le (Y ++ k :: Z); omega
          by_cases hlt : j < n
          · have hlt' : j < l.length := by rw [← HN.out]; exact hlt
            have hx : l[j]? = some l[j] := List.getElem?_eq_getElem hlt'
            obtain ⟨b', o', ha, hb', hr⟩ := SL.elem keyC_length H.out hx
            subst ha
            have R2 : rowOf wr b' (o' + j * 32) 32 = some (keyC l[j]) := hSB.row (by omega) (by rw [rowOf_congr (hbW.block _ hb')]; exact hr)
            have hs3 : b' < wr.heap.size := by omega
            have hZ100 : Z.length ≤ 1000000 := by omega
            generalize l[j] = x at *
            have HX := Lib.hid hx
            clear hx hr
            go_wp2_with fail
            refine (has_n a' n' c' _ k _ hR.keys (by omega)).mono ?_
            rintro e w6 ⟨rfl, hb6⟩
            rw [hasB_since k Y Z hZ]
            have hRq := hR.below hb6
            have D0 := hRq.cell
            have D1 := hRq.frozen
            have D2 := hRq.lt
            have hSq : SinceB rb W3 w6 := hSB.next hb6
            have R2q : rowOf w6 b' (o' + j * 32) 32 = some (keyC x) := by rw [rowOf_congr (hb6.block _ hs3)]; exact R2
            have hs6 : b' < w6.heap.size := by have := hb6.size; omega
            have hall : ∀ w', SinceB rb w6 w' → (rowOf w' b' (o' + j * 32) 32 = some (keyC x) ∧ b' < w'.heap.size) := fun w' h => ⟨h.row (by omega) R2q, by have := h.size; omega⟩
            cases hd : decide ((Z.length : Int) < 4)
            all_goals
              go_wp2
              refine hreg_begin (S := SinceB rb w6) (by kernel_rfl) (SinceB.refl (by omega)).drew (fun hHeld => ?_)
              simp only [List.length_cons, List.length_nil, Nat.zero_add, Nat.reduceAdd, Array.replicate]
              refine hreg_take (i := 1) rfl (by kernel_rfl) (by kernel_rfl) (by kernel_rfl) hreg_panic (by rfl) hHeld ?_
              apply Exists.intro
              refine ⟨fun w' hw' => ?_, ?_⟩
              · have hf := hall w' hw'
                go_simp
                try go_bits
                exact yieldsV_mk rfl
              simp only [Act.put, List.setIfInBounds_toArray, List.set_cons_zero, List.set_cons_succ]
              refine hreg_take (i := 2) rfl (by kernel_rfl) (by kernel_rfl) (by kernel_rfl) hreg_panic (by rfl) hHeld ?_
              apply Exists.intro
              refine ⟨fun w' hw' => ?_, ?_⟩
              · have hf := hall w' hw'
                go_simp
                try go_bits
                exact yieldsV_mk rfl
              simp only [Act.put, List.setIfInBounds_toArray, List.set_cons_zero, List.set_cons_succ]
              refine hreg_take (i := 3) rfl (by kernel_rfl) (by kernel_rfl) (by kernel_rfl) hreg_panic (by rfl) hHeld ?_
              apply Exists.intro
              refine ⟨fun w' hw' => ?_, ?_⟩
              · have hf := hall w' hw'
                go_simp
                try go_bits
                exact yieldsV_mk rfl
              simp only [Act.put, List.setIfInBounds_toArray, List.set_cons_zero, List.set_cons_succ]
              refine hreg_take (i := 4) rfl (by kernel_rfl) (by kernel_rfl) (by kernel_rfl) hreg_panic (by rfl) hHeld ?_
              apply Exists.intro
              refine ⟨fun w' hw' => ?_, ?_⟩
              · have hf := hall w' hw'
                go_simp
                try go_bits
                exact yieldsV_mk rfl
              simp only [Act.put, List.setIfInBounds_toArray, List.set_cons_zero, List.set_cons_succ]
              refine wpAnyH_ready (rs := [0]) (by kernel_rfl) (by simp) ?_
              refine hreg_event (o := _) rfl (by rfl) (fun K hK => ?_) ?_
              · go_simp
                first
                  | (go_at_call 15; refine (put_n a' n' c' _ x _ hRq.drew.keys hn8).mono ?_; rintro e wn ⟨ap, np, cp, rfl, hkp, hb, hfp, hnp, -, -⟩; have hRn := hRq.drew.below hb; have E0 := hRn.cell; have E1 := hRn.frozen; have E2 := hRn.lt; replace hnp := Lib.hid hnp)
                  | skip
                refine hK.out _ _ ?_ (fun hHeld' => ?_)
                · first
                    | exact hHeld.setCell (Nat.le_refl _) _
                    | exact hHeld.next hb
                    | exact hHeld
                    | exact hHeld.alloc _
                    | exact hHeld.setCell (by simp <;> omega) _
                    | exact (hHeld.alloc _).alloc _
                replace hHeld := hHeld'
                clear hHeld' hK K
                simp only [Act.put, List.setIfInBounds_toArray, List.set_cons_zero, List.set_cons_succ]
                refine wpAnyH_ready (rs := [5]) (by kernel_rfl) (by simp) ?_
                refine hreg_event (o := _) rfl (by rfl) (fun K hK => ?_) ?_
                · go_simp
                  first
                    | (go_at_call 15; refine (put_n a' n' c' _ x _ hRq.drew.keys hn8).mono ?_; rintro e wn ⟨ap, np, cp, rfl, hkp, hb, hfp, hnp, -, -⟩; have hRn := hRq.drew.below hb; have E0 := hRn.cell; have E1 := hRn.frozen; have E2 := hRn.lt; replace hnp := Lib.hid hnp)
                    | skip
                  refine hK.out _ _ ?_ (fun hHeld' => ?_)
                  · first
                      | exact hHeld.setCell (Nat.le_refl _) _
                      | exact hHeld.next hb
                      | exact hHeld
                      | exact hHeld.alloc _
                      | exact hHeld.setCell (by simp <;> omega) _
                      | exact (hHeld.alloc _).alloc _
                  replace hHeld := hHeld'
                  clear hHeld' hK K
                  simp only [Act.put, List.setIfInBounds_toArray, List.set_cons_zero, List.set_cons_succ]
                  refine wpAnyH_ready (rs := [6]) (by kernel_rfl) (by simp) ?_
                  refine hreg_event (o := _) rfl (by rfl) (fun K hK => ?_) ?_
                  · go_simp
                    first
                      | (go_at_call 15; refine (put_n a' n' c' _ x _ hRq.drew.keys hn8).mono ?_; rintro e wn ⟨ap, np, cp, rfl, hkp, hb, hfp, hnp, -, -⟩; have hRn := hRq.drew.below hb; have E0 := hRn.cell; have E1 := hRn.frozen; have E2 := hRn.lt; replace hnp := Lib.hid hnp)
                      | skip
                    refine hK.out _ _ ?_ (fun hHeld' => ?_)
                    · first
                        | exact hHeld.setCell (Nat.le_refl _) _
                        | exact hHeld.next hb
                        | exact hHeld
                        | exact hHeld.alloc _
                        | exact hHeld.setCell (by simp <;> omega) _
                        | exact (hHeld.alloc _).alloc _
                    replace hHeld := hHeld'
                    clear hHeld' hK K
                    simp only [Act.put, List.setIfInBounds_toArray, List.set_cons_zero, List.set_cons_succ]
                    refine wpAnyH_done (by kernel_rfl) ?_ _
                    refine NoPanic.normal ?_
                    have hR5 := hRq.drew.store hb hkp hfp
                    rw [putL_ringL] at hR5
                    have R1q : rowOf (wn.setCell ⟨rb, 0, none⟩ (.slice ap np cp)) W.heap.size 0 32 = some (keyC k) := hHeld.row hlt2 (hSq.row hlt2 hrk)
                    have hs9 : W.heap.size < (wn.setCell ⟨rb, 0, none⟩ (.slice ap np cp)).heap.size := by have := hHeld.size; have := hSq.size; omega
                    have R2x : rowOf (wn.setCell ⟨rb, 0, none⟩ (.slice ap np cp)) b' (o' + j * 32) 32 = some (keyC x) := (hall _ hHeld).1
                    have hs10 : b' < (wn.setCell ⟨rb, 0, none⟩ (.slice ap np cp)).heap.size := (hall _ hHeld).2
                    obtain ⟨w7, hw7⟩ : ∃ w7, w7 = wn.setCell ⟨rb, 0, none⟩ (.slice ap np cp) := ⟨_, rfl⟩
                    rw [← hw7] at hR5 R1q R2x hs9 hs10 hHeld ⊢
                    replace hw7 := Lib.hid hw7
                    cases hxk : (x == k)
                    · go_wp2
                      (refine region_since (by kernel_rfl) (by kernel_rfl) ?_)
                      repeat (first
                        | (refine wpQuiet_off rfl ?_; simp only [Act.put, List.setIfInBounds_toArray, List.set_cons_succ, List.set_cons_zero])
                        | (refine wpQuiet_on rfl ?_
                           apply Exists.intro
                           refine ⟨fun w' hw' => ?_, ?_⟩
                           · (obtain ⟨hc', hr', hs'⟩ := since_facts hw'
                              unfold Oper.quietAt
                              go_simp
                              try go_bits
                              first
                                | exact quietUpon_value rfl
                                | (apply quietUpon_enter
                                   first
                                   | fail))
                           simp only [Act.put, List.setIfInBounds_toArray, List.set_cons_succ, List.set_cons_zero]))
                      first
                        | refine wpQuiet_nil ?_
                        | fail "QUIET stopped"
                      intro wq hwq'
                      go_wp2
                      go_roundw
                      case rel => exact ⟨((hSq.trans hHeld).next hwq'), j + 1, by omega, by go_num, _, _, _, Y, Z ++ [x], by simp, by rw [anyK_append, hZ, hxk]; rfl, by rw [List.length_append, List.length_singleton]; omega, by have := hR5.below hwq'; simpa using this⟩
                      case measure => simp [intOf]; omega
                    · go_wp2
                      (refine region_since (by kernel_rfl) (by kernel_rfl) ?_)
                      repeat (first
                        | (refine wpQuiet_off rfl ?_; simp only [Act.put, List.setIfInBounds_toArray, List.set_cons_succ, List.set_cons_zero])
                        | (refine wpQuiet_on rfl ?_
                           apply Exists.intro
                           refine ⟨fun w' hw' => ?_, ?_⟩
                           · (obtain ⟨hc', hr', hs'⟩ := since_facts hw'
                              unfold Oper.quietAt
                              go_simp
                              try go_bits
                              first
                                | exact quietUpon_value rfl
                                | (apply quietUpon_enter
                                   first
                                   | fail))
                           simp only [Act.put, List.setIfInBounds_toArray, List.set_cons_succ, List.set_cons_zero]))
                      first
                        | refine wpQuiet_nil ?_
                        | fail "QUIET stopped"
                      intro wq hwq'
                      go_wp2
                      go_roundw
                      case rel => exact ⟨((hSq.trans hHeld).next hwq'), j + 1, by omega, by go_num, _, _, _, Y ++ k :: Z, [], rfl, rfl, by simp, by have := hR5.below hwq'; rw [key_eq hxk] at this; simpa using this⟩
                      case measure => simp [intOf]; omega
                  exact AllReadyH.nil
                exact AllReadyH.nil
              exact AllReadyH.nil
          · obtain rfl : j = n := by omega
            go_wp2_with fail
            refine (has_n a' n' c' _ k _ hR.keys (by omega)).mono ?_
            rintro e w6 ⟨rfl, hb6⟩
            rw [hasB_since k Y Z hZ]
            go_wp2
            go_ret
            exact gives_bool rfl (since_next (hbW.trans (hSB.out.mono (by omega))) hb6)

end Go.Proofs.Ytpgaibihfplhcaa
