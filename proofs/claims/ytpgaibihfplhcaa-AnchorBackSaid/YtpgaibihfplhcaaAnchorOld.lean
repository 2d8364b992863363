/- Layer 8: a root that was put, and then others so often as the window is, is not there any more. -/
import Derived.Test.YtpgaibihfplhcaaAnchorLaws
namespace Go.Proofs.Ytpgaibihfplhcaa
open Go.RowKit
set_option linter.unusedVariables false
set_option linter.unusedSimpArgs false
attribute [local go_sem ↓] load_key store_key alloc_key build0_key one_key make_key copy_key append_key eq_key build1_key build2_key
attribute [local go_sem] rowOf_drew rowOf_alloc_old rowOf_alloc_new canPut_drew canPut_alloc_old canPut_alloc_new setCells_alloc_new

/-- A ring lies in the variable of block b: its keys are L. -/
structure RingAt (b : Nat) (w : World) (a : Option Addr) (n c : Nat) (L : List Key) : Prop where
  lt : b < w.heap.size
  cell : w.cell? ⟨b, 0, none⟩ = some (.slice a n c)
  frozen : w.frozen? ⟨b, 0, none⟩ = false
  keys : KS w a n c L
  apart : ∀ x, a = some x → x.block ≠ b
theorem RingAt.below {b : Nat} {w w' : World} {a : Option Addr} {n c : Nat} {L : List Key} (h : RingAt b w a n c L) (hb : Below w.heap.size w w') : RingAt b w' a n c L :=
  ⟨Nat.lt_of_lt_of_le h.lt hb.size, by rw [hb.cell (p := ⟨b, 0, none⟩) h.lt]; exact h.cell, by rw [hb.frozen (p := ⟨b, 0, none⟩) h.lt]; exact h.frozen, SL.below h.keys hb, h.apart⟩
theorem RingAt.store {b : Nat} {w w' : World} {a a' : Option Addr} {n c n' c' : Nat} {L L' : List Key} (h : RingAt b w a n c L) (hb : Below w.heap.size w w') (hk : KS w' a' n' c' L') (hf : Fresh w.heap.size a') : RingAt b (w'.setCell ⟨b, 0, none⟩ (.slice a' n' c')) a' n' c' L' := by
  have h' := h.below hb
  have hap : ∀ x, a' = some x → x.block ≠ b := hf.ne h.lt
  exact ⟨by simpa [World.setCell] using h'.lt, World.cell?_setCell_same w' _ _ h'.cell, by rw [World.frozen?_setCell]; exact h'.frozen, SL.setCell hk _ _ _ hap, hap⟩

theorem KS.apart_new {w : World} {a : Option Addr} {n c : Nat} {L : List Key} (h : KS w a n c L) (hne : L ≠ []) : ∀ x, a = some x → x.block ≠ w.heap.size := by
  obtain ⟨b, o, rfl, hb, _⟩ := h.2.2.2.2 hne
  intro x hx
  injection hx with hx
  subst hx
  exact Nat.ne_of_lt hb

theorem RingAt.drew {b : Nat} {w : World} {a : Option Addr} {n c : Nat} {L : List Key} (h : RingAt b w a n c L) : RingAt b w.drew a n c L := h.below ((Below.refl _ _).drew)

/-- The ring after these roots. -/
def ringL (X : List Key) : List Key := lastN X 8
theorem lastN_len_le {α : Type} (l : List α) (m : Nat) : (lastN l m).length ≤ m := by rw [lastN_length]; omega
theorem putL_ringL (X : List Key) (k : Key) : putL (ringL X) k = ringL (X ++ [k]) := by
  unfold putL ringL lastN
  rcases Nat.lt_or_ge X.length 8 with h | h
  · rw [show X.length - 8 = 0 from by omega, List.drop_zero]
  · have h1 : (X ++ [k]).length - 8 = X.length - 8 + 1 := by rw [List.length_append, List.length_singleton]; omega
    have h2 : (X.drop (X.length - 8) ++ [k]).length - 8 = 1 := by rw [List.length_append, List.length_singleton, List.length_drop]; omega
    rw [h1, h2, ← List.drop_drop, List.drop_append_of_le_length (by omega : X.length - 8 ≤ X.length)]
theorem lastN_lastN {α : Type} (l : List α) (m k : Nat) (h : k ≤ m) : lastN (lastN l m) k = lastN l k := by
  unfold lastN
  rw [List.length_drop, List.drop_drop]
  congr 1
  omega
theorem hasB_ringL (X : List Key) (k : Key) : hasB (ringL X) k = anyK (lastN X 4) k := by unfold hasB ringL; rw [lastN_lastN X 8 4 (by omega)]
theorem ringL_one (k : Key) : ringL [k] = [k] := rfl

/-- The others among the first so many. -/
def others (k : Key) (l : List Key) (j : Nat) : List Key := (l.take j).filter fun x => !(x == k)
theorem others_zero (k : Key) (l : List Key) : others k l 0 = [] := rfl
theorem others_same {k : Key} {l : List Key} {j : Nat} {x : Key} (hx : l[j]? = some x) (h : (x == k) = true) : others k l (j + 1) = others k l j := by
  unfold others
  rw [List.take_add_one, hx, List.filter_append]
  simp [h]
theorem others_more {k : Key} {l : List Key} {j : Nat} {x : Key} (hx : l[j]? = some x) (h : (x == k) = false) : others k l (j + 1) = others k l j ++ [x] := by
  unfold others
  rw [List.take_add_one, hx, List.filter_append]
  simp [h]
theorem others_le (k : Key) (l : List Key) (j : Nat) : (others k l j).length ≤ j := by
  unfold others
  exact Nat.le_trans (List.length_filter_le _ _) (by rw [List.length_take]; omega)
theorem others_any (k : Key) (l : List Key) (j i : Nat) : anyK ((others k l j).drop i) k = false := by
  unfold anyK others
  rw [Bool.eq_false_iff]
  intro h
  obtain ⟨x, hx, he⟩ := List.any_eq_true.1 h
  have := (List.mem_filter.1 (List.mem_of_mem_drop hx)).2
  rw [he] at this
  cases this
theorem hasB_old (k : Key) (l : List Key) (j : Nat) : hasB (ringL (k :: others k l j)) k = decide ((others k l j).length < 4) := by
  rw [hasB_ringL]
  unfold lastN
  rw [List.length_cons]
  rcases Nat.lt_or_ge (others k l j).length 4 with h | h
  · rw [show (others k l j).length + 1 - 4 = 0 from by omega, List.drop_zero, decide_eq_true h]
    unfold anyK; simp
  · rw [show (others k l j).length + 1 - 4 = (others k l j).length - 4 + 1 from by omega, List.drop_succ_cons, others_any]
    exact (decide_eq_false (by omega)).symm

theorem hasB_old' (k : Key) (l : List Key) (j : Nat) : hasB (ringL (k :: others k l j)) k = decide (((others k l j).length : Int) < 4) := by
  rw [hasB_old]
  exact decide_eq_decide.2 (by omega)
theorem hasB_put {k x : Key} {l : List Key} {j : Nat} (hx : l[j]? = some x) (h : (x == k) = false) : hasB (putL (ringL (k :: others k l j)) x) k = decide (((others k l j).length : Int) + 1 < 4) := by
  rw [putL_ringL, List.cons_append, ← others_more hx h, hasB_old, others_more hx h]
  exact decide_eq_decide.2 (by rw [List.length_append, List.length_singleton]; omega)
theorem ringL_le (X : List Key) : (ringL X).length ≤ 8 := lastN_len_le _ _

set_option maxHeartbeats 1000000 in
theorem anchorOld_walk (k : Key) (a : Option Addr) (n c : Nat) (l : List Key) (W : World) (h : KS W a n c l) : Calls Try.prog 3 #[.agg (keyC k).toArray, .slice a n c] W (LawEnd W) := by
  have HN := Lib.hid h.1
  by_cases hn : 100 < n
  · clear h
    go_enter Try.func3, Try.ntmps3
    go_wp2_with fail
    refine (shown08 _).mono ?_
    rintro e w2 ⟨rfl, hb2⟩
    go_wp2
    go_ret
    exact gives_bool rfl (Below.of hb2 (by simp) ((Below.refl _ _).alloc (by simp) _))
  · have hcap := h.2.1
    go_enter Try.func3, Try.ntmps3
    go_wp2_with fail
    have S0 := ((Held.start W 32).row (keyC k) 23 (keyC_length k))
    refine (shown08 _).mono ?_
    rintro e w1 ⟨rfl, hb1⟩
    have hl1 := SL.below (SL.alloc h _) hb1
    try clear hcells hrows
    replace S0 := Held.to S0 hb1
    have hcells := Held.cells S0
    have hrows := Held.rows S0
    simp only [CF, RF, World.size_alloc] at hcells hrows
    go_wp2_with fail
    refine (new_n k _).mono ?_
    rintro e w2 ⟨a2, n2, c2, rfl, hk2, hb2, hf2, hn2, -, -⟩
    have hl2 := SL.below hl1 hb2
    try clear hcells hrows
    replace S0 := Held.to S0 hb2
    have hcells := Held.cells S0
    have hrows := Held.rows S0
    simp only [CF, RF, World.size_alloc] at hcells hrows
    replace hn2 := Lib.hid hn2
    go_wp2_with fail
    replace S0 := S0.cell (.slice a2 n2 c2) 27
    have hl3 := SL.alloc hl2 (.cells #[.slice a2 n2 c2] 27)
    obtain ⟨W3, hW3⟩ : ∃ W3, W3 = w2.alloc (.cells #[.slice a2 n2 c2] 27) := ⟨_, rfl⟩
    rw [← hW3] at S0 hl3 ⊢
    have hR0 : RingAt w2.heap.size W3 a2 n2 c2 (ringL (k :: others k l 0)) := by
      subst hW3
      exact ⟨by simp, by simp [go_sem], by simp [go_sem], SL.alloc hk2 _, KS.apart_new hk2 (by simp)⟩
    have hsz3 : w2.heap.size ≤ W3.heap.size := by rw [hW3]; simp
    have hrk : rowOf W3 W.heap.size 0 32 = some (keyC k) := by have := S0.rows; exact this.1.2
    have hlt2 : W.heap.size < w2.heap.size := hrows.1.1
    have hbW := S0.below
    replace hW3 := Lib.hid hW3
    clear hcells hrows S0 hl1 hl2 hk2 hf2 hb1 hb2
    generalize w2.heap.size = rb at *
    have H := Lib.hid h
    clear h hl3
    go_loopw [6, 7] (fun m i wr => SinceB rb W3 wr ∧ ∃ j : Nat, j ≤ n ∧ i = .int .i64 j ∧ m = .int .i64 (others k l j).length ∧ ∃ a' n' c', RingAt rb wr a' n' c' (ringL (k :: others k l j))) (fun _ i _ => n - (intOf i).toNat)
    case atStart => exact ⟨SinceB.refl hsz3, 0, Nat.zero_le _, rfl, rfl, _, _, _, hR0⟩
    case round =>
      obtain ⟨hSB, j, hj, rfl, rfl, a', n', c', hR⟩ := hrel
      have hszr := hSB.size
      have C0 := hR.cell
      have C1 := hR.frozen
      have C2 := hR.lt
      have R1 : rowOf wr W.heap.size 0 32 = some (keyC k) := hSB.row hlt2 hrk
      have hs1 : W.heap.size < wr.heap.size := by omega
      have hoth := others_le k l j
      by_cases hlt : j < n
      · have hlt' : j < l.length := by rw [← HN.out]; exact hlt
        have hx : l[j]? = some l[j] := List.getElem?_eq_getElem hlt'
        obtain ⟨b', o', ha, hb', hr⟩ := SL.elem keyC_length H.out hx
        subst ha
        have R2 : rowOf wr b' (o' + j * 32) 32 = some (keyC l[j]) := hSB.row (by omega) (by rw [rowOf_congr (hbW.block _ hb')]; exact hr)
        have hs3 : b' < wr.heap.size := by omega
        generalize l[j] = x at *
        have HX := Lib.hid hx
        clear hx hr
        cases hxk : (x == k)
        · go_wp2
          (refine region_since (by kernel_rfl) (by kernel_rfl) ?_)
          repeat (first
            | (refine wpQuiet_goff rfl rfl rfl rfl ?_; simp only [Act.put, List.setIfInBounds_toArray, List.set_cons_succ, List.set_cons_zero])
            | (first
                 | refine wpQuiet_free rfl ?_
                 | refine wpQuiet_gon rfl rfl rfl rfl ?_
               apply Exists.intro
               refine ⟨fun w' hw' => ?_, ?_⟩
               · (obtain ⟨hc', hr', hs'⟩ := since_facts hw'
                  unfold Oper.quietAt
                  go_simp
                  try go_bits
                  first
                    | exact quietUpon_value rfl
                    | (apply quietUpon_enter
                       first
                       | fail))
               simp only [Act.put, List.setIfInBounds_toArray, List.set_cons_succ, List.set_cons_zero]))
          first
            | refine wpQuiet_nil ?_
            | fail "QUIET stopped"
          intro wq hwq'
          have hRq := hR.below hwq'
          have D0 := hRq.cell
          have D1 := hRq.frozen
          have D2 := hRq.lt
          have hSq : SinceB rb W3 wq := hSB.next hwq'
          have R2q : rowOf wq b' (o' + j * 32) 32 = some (keyC x) := by rw [rowOf_congr (Below.block hwq' _ hs3)]; exact R2
          go_wp2
          have hall : ∀ w', SinceB rb wq w' → (rowOf w' b' (o' + j * 32) 32 = some (keyC x) ∧ b' < w'.heap.size) := fun w' h => ⟨h.row (by omega) R2q, by have := h.size; have := Below.size hwq'; omega⟩
          have hn8 : n' ≤ 100000 := by have := hRq.keys.1; have := ringL_le (k :: others k l j); omega
          refine hreg_begin (S := SinceB rb wq) (by kernel_rfl) (SinceB.refl (by omega)).drew (fun hHeld => ?_)
          simp only [List.length_cons, List.length_nil, Nat.zero_add, Nat.reduceAdd, Array.replicate]
          refine hreg_take (i := 1) rfl (by kernel_rfl) (by kernel_rfl) (by kernel_rfl) hreg_panic (by rfl) hHeld ?_
          apply Exists.intro
          refine ⟨fun w' hw' => ?_, ?_⟩
          · have hf := hall w' hw'
            go_simp
            try go_bits
            exact yieldsV_mk rfl
          simp only [Act.put, List.setIfInBounds_toArray, List.set_cons_zero, List.set_cons_succ]
          refine hreg_take (i := 2) rfl (by kernel_rfl) (by kernel_rfl) (by kernel_rfl) hreg_panic (by rfl) hHeld ?_
          apply Exists.intro
          refine ⟨fun w' hw' => ?_, ?_⟩
          · have hf := hall w' hw'
            go_simp
            try go_bits
            exact yieldsV_mk rfl
          simp only [Act.put, List.setIfInBounds_toArray, List.set_cons_zero, List.set_cons_succ]
          refine hreg_take (i := 3) rfl (by kernel_rfl) (by kernel_rfl) (by kernel_rfl) hreg_panic (by rfl) hHeld ?_
          apply Exists.intro
          refine ⟨fun w' hw' => ?_, ?_⟩
          · have hf := hall w' hw'
            go_simp
            try go_bits
            exact yieldsV_mk rfl
          simp only [Act.put, List.setIfInBounds_toArray, List.set_cons_zero, List.set_cons_succ]
          refine hreg_take (i := 4) rfl (by kernel_rfl) (by kernel_rfl) (by kernel_rfl) hreg_panic (by rfl) hHeld ?_
          apply Exists.intro
          refine ⟨fun w' hw' => ?_, ?_⟩
          · have hf := hall w' hw'
            go_simp
            try go_bits
            exact yieldsV_mk rfl
          simp only [Act.put, List.setIfInBounds_toArray, List.set_cons_zero, List.set_cons_succ]
          refine wpAnyH_ready (rs := [0]) (by kernel_rfl) (by simp) ?_
          refine hreg_event (o := _) rfl (by rfl) (fun K hK => ?_) ?_
          · go_simp
            first
              | (go_at_call 15; refine (put_n a' n' c' _ x _ hRq.drew.keys hn8).mono ?_; rintro e wn ⟨ap, np, cp, rfl, hkp, hb, hfp, hnp, -, -⟩; have hRn := hRq.drew.below hb; have E0 := hRn.cell; have E1 := hRn.frozen; have E2 := hRn.lt; replace hnp := Lib.hid hnp)
              | skip
            refine hK.out _ _ ?_ (fun hHeld' => ?_)
            · first
                | exact hHeld.setCell (Nat.le_refl _) _
                | exact hHeld.next hb
                | exact hHeld
                | exact hHeld.alloc _
                | exact hHeld.setCell (by simp <;> omega) _
                | exact (hHeld.alloc _).alloc _
            replace hHeld := hHeld'
            clear hHeld' hK K
            simp only [Act.put, List.setIfInBounds_toArray, List.set_cons_zero, List.set_cons_succ]
            refine wpAnyH_ready (rs := [5]) (by kernel_rfl) (by simp) ?_
            refine hreg_event (o := _) rfl (by rfl) (fun K hK => ?_) ?_
            · go_simp
              first
                | (go_at_call 15; refine (put_n a' n' c' _ x _ hRq.drew.keys hn8).mono ?_; rintro e wn ⟨ap, np, cp, rfl, hkp, hb, hfp, hnp, -, -⟩; have hRn := hRq.drew.below hb; have E0 := hRn.cell; have E1 := hRn.frozen; have E2 := hRn.lt; replace hnp := Lib.hid hnp)
                | skip
              refine hK.out _ _ ?_ (fun hHeld' => ?_)
              · first
                  | exact hHeld.setCell (Nat.le_refl _) _
                  | exact hHeld.next hb
                  | exact hHeld
                  | exact hHeld.alloc _
                  | exact hHeld.setCell (by simp <;> omega) _
                  | exact (hHeld.alloc _).alloc _
              replace hHeld := hHeld'
              clear hHeld' hK K
              simp only [Act.put, List.setIfInBounds_toArray, List.set_cons_zero, List.set_cons_succ]
              refine wpAnyH_ready (rs := [6]) (by kernel_rfl) (by simp) ?_
              refine hreg_event (o := _) rfl (by rfl) (fun K hK => ?_) ?_
              · go_simp
                first
                  | (go_at_call 15; refine (put_n a' n' c' _ x _ hRq.drew.keys hn8).mono ?_; rintro e wn ⟨ap, np, cp, rfl, hkp, hb, hfp, hnp, -, -⟩; have hRn := hRq.drew.below hb; have E0 := hRn.cell; have E1 := hRn.frozen; have E2 := hRn.lt; replace hnp := Lib.hid hnp)
                  | skip
                refine hK.out _ _ ?_ (fun hHeld' => ?_)
                · first
                    | exact hHeld.setCell (Nat.le_refl _) _
                    | exact hHeld.next hb
                    | exact hHeld
                    | exact hHeld.alloc _
                    | exact hHeld.setCell (by simp <;> omega) _
                    | exact (hHeld.alloc _).alloc _
                replace hHeld := hHeld'
                clear hHeld' hK K
                simp only [Act.put, List.setIfInBounds_toArray, List.set_cons_zero, List.set_cons_succ]
                refine wpAnyH_done (by kernel_rfl) ?_ _
                refine NoPanic.normal ?_
                have hR5 := hRq.drew.store hb hkp hfp
                have hh := hasB_put HX.out hxk
                have np8 : np ≤ 100000 := by have := hnp.out; have := putL_le (ringL (k :: others k l j)) x; omega
                have F0 := hR5.cell
                have F1 := hR5.frozen
                have F2 := hR5.lt
                have R1q : rowOf (wn.setCell ⟨rb, 0, none⟩ (.slice ap np cp)) W.heap.size 0 32 = some (keyC k) := hHeld.row hlt2 (hSq.row hlt2 hrk)
                have hs9 : W.heap.size < (wn.setCell ⟨rb, 0, none⟩ (.slice ap np cp)).heap.size := by have := hHeld.size; have := hSq.size; omega
                have hP : putL (ringL (k :: others k l j)) x = ringL (k :: others k l (j + 1)) := by rw [putL_ringL, List.cons_append, ← others_more HX.out hxk]
                have hO1 : ((others k l j).length : Int) + 1 = ((others k l (j + 1)).length : Int) := by rw [others_more HX.out hxk]; simp
                replace hP := Lib.hid hP
                replace hO1 := Lib.hid hO1
                obtain ⟨w5, hw5⟩ : ∃ w5, w5 = wn.setCell ⟨rb, 0, none⟩ (.slice ap np cp) := ⟨_, rfl⟩
                rw [← hw5] at hR5 F0 F1 F2 R1q hs9 hHeld ⊢
                replace hw5 := Lib.hid hw5
                go_wp2_with fail
                refine (has_n ap np cp _ k _ hR5.keys (by omega)).mono ?_
                rintro e w6 ⟨rfl, hb6⟩
                rw [hh]
                go_wp2
                go_roundw
                case rel => exact ⟨((hSB.next hwq').trans hHeld).next hb6, j + 1, by omega, by go_num, by rw [hO1.out], _, _, _, by rw [← hP.out]; exact hR5.below hb6⟩
                case measure => simp [intOf]; omega
              exact AllReadyH.nil
            exact AllReadyH.nil
          exact AllReadyH.nil
        · go_wp2
          (refine region_since (by kernel_rfl) (by kernel_rfl) ?_)
          repeat (first
            | (refine wpQuiet_goff rfl rfl rfl rfl ?_; simp only [Act.put, List.setIfInBounds_toArray, List.set_cons_succ, List.set_cons_zero])
            | (first
                 | refine wpQuiet_free rfl ?_
                 | refine wpQuiet_gon rfl rfl rfl rfl ?_
               apply Exists.intro
               refine ⟨fun w' hw' => ?_, ?_⟩
               · (obtain ⟨hc', hr', hs'⟩ := since_facts hw'
                  unfold Oper.quietAt
                  go_simp
                  try go_bits
                  first
                    | exact quietUpon_value rfl
                    | (apply quietUpon_enter
                       first
                       | fail))
               simp only [Act.put, List.setIfInBounds_toArray, List.set_cons_succ, List.set_cons_zero]))
          first
            | refine wpQuiet_nil ?_
            | fail "QUIET stopped"
          intro wq hwq'
          go_wp2
          go_roundw
          case rel => exact ⟨hSB.next hwq', j + 1, by omega, by go_num, by rw [others_same HX.out hxk], _, _, _, by rw [others_same HX.out hxk]; exact hR.below hwq'⟩
          case measure => simp [intOf]; omega
      · obtain rfl : j = n := by omega
        go_wp2_with fail
        refine (has_n a' n' c' _ k _ hR.keys (by have := hR.keys.1; have := ringL_le (k :: others k l j); omega)).mono ?_
        rintro e w6 ⟨rfl, hb6⟩
        rw [hasB_old']
        go_wp2
        go_ret
        exact gives_bool rfl (since_next (hbW.trans (hSB.out.mono (by omega))) hb6)

end Go.Proofs.Ytpgaibihfplhcaa
