/- Layer 8: what is put is put back, and still has the last four that there were. -/
import Derived.Test.YtpgaibihfplhcaaAnchorWindow
namespace Go.Proofs.Ytpgaibihfplhcaa
open Go.RowKit
set_option linter.unusedVariables false
set_option linter.unusedSimpArgs false
attribute [local go_sem ↓] load_key store_key alloc_key build0_key one_key make_key copy_key append_key eq_key build1_key build2_key
attribute [local go_sem] rowOf_drew rowOf_alloc_old rowOf_alloc_new canPut_drew canPut_alloc_old canPut_alloc_new setCells_alloc_new

/-- The ring, so often put back. -/
def backN (X : List Key) (t : Nat) : List Key := (ringL X).take ((ringL X).length - t)
theorem ringL_length (X : List Key) : (ringL X).length = min X.length 8 := by unfold ringL; rw [lastN_length]; omega
theorem backN_length (X : List Key) (t : Nat) : (backN X t).length = min X.length 8 - t := by unfold backN; rw [List.length_take, ringL_length]; omega
theorem backN_zero (X : List Key) : backN X 0 = ringL X := by unfold backN; rw [Nat.sub_zero, List.take_length]
theorem backN_succ {X : List Key} {t : Nat} (h : 2 ≤ min X.length 8 - t) : backE (backN X t) = 0 ∧ backL (backN X t) = backN X (t + 1) := by
  have hl := backN_length X t
  unfold backE backL
  rw [if_neg (by omega), if_neg (by omega)]
  refine ⟨rfl, ?_⟩
  rw [List.dropLast_eq_take, hl]
  unfold backN
  rw [List.take_take, ringL_length]
  congr 1
  omega
theorem hasB_of_get {L : List Key} {y : Key} {i : Nat} (hi : i < 4) (h : L[L.length - 1 - i]? = some y) : hasB L y = true := by
  unfold hasB
  refine anyK_mem ?_
  unfold lastN
  have hlt := (List.getElem?_eq_some_iff.1 h).1
  refine List.mem_iff_getElem?.2 ⟨L.length - 1 - i - (L.length - 4), ?_⟩
  rw [List.getElem?_drop, ← h]
  congr 1
  omega
/-- Each of the last four that there were is there still. -/
theorem hasB_backN {X : List Key} {m i : Nat} {y : Key} (hm : m ≤ 4) (hi : i < 4) (him : m + i < X.length) (h : X[X.length - m - 1 - i]? = some y) : hasB (backN X m) y = true := by
  refine hasB_of_get hi ?_
  rw [backN_length]
  unfold backN ringL lastN
  rw [List.getElem?_take, if_pos (by rw [List.length_drop]; omega), List.getElem?_drop, ← h]
  congr 1
  omega

set_option maxHeartbeats 2000000 in
theorem anchorBack_walk (k : Key) (a : Option Addr) (n c : Nat) (l : List Key) (U : Nat) (hU : U ≤ 255) (W : World) (h : KS W a n c l) : Calls Try.prog 10 #[.agg (keyC k).toArray, .slice a n c, .int .u8 U] W (LawEnd W) := by
  have HN := Lib.hid h.1
  by_cases hn : 100 < n
  · clear h
    go_enter Try.func10, Try.ntmps10
    go_wp2_with fail
    refine (shown08 _).mono ?_
    rintro e w2 ⟨rfl, hb2⟩
    go_wp2
    go_ret
    exact gives_bool rfl (Below.of hb2 (by simp) ((Below.refl _ _).alloc (by simp) _))
  · have hcap := h.2.1
    go_enter Try.func10, Try.ntmps10
    go_wp2_with fail
    have S0 := ((Held.start W 32).row (keyC k) 23 (keyC_length k))
    refine (shown08 _).mono ?_
    rintro e w1 ⟨rfl, hb1⟩
    try clear hcells hrows
    replace S0 := Held.to S0 hb1
    have hcells := Held.cells S0
    have hrows := Held.rows S0
    simp only [CF, RF, World.size_alloc] at hcells hrows
    go_wp2_with fail
    refine (new_n k _).mono ?_
    rintro e w2 ⟨a2, n2, c2, rfl, hk2, hb2, hf2, hn2, -, -⟩
    try clear hcells hrows
    replace S0 := Held.to S0 hb2
    have hcells := Held.cells S0
    have hrows := Held.rows S0
    simp only [CF, RF, World.size_alloc] at hcells hrows
    replace hn2 := Lib.hid hn2
    go_wp2_with fail
    replace S0 := S0.cell (.slice a2 n2 c2) 27
    replace S0 := S0.alloc (.cells (keyC k).toArray 23)
    obtain ⟨W3, hW3⟩ : ∃ W3, W3 = (w2.alloc (.cells #[.slice a2 n2 c2] 27)).alloc (.cells (keyC k).toArray 23) := ⟨_, rfl⟩
    rw [← hW3] at S0 ⊢
    have hB0 : Both w2.heap.size W3 a2 n2 c2 (w2.heap.size + 1) 1 ([k] ++ l.take 0) := by
      subst hW3
      have hR : RingAt w2.heap.size (w2.alloc (.cells #[.slice a2 n2 c2] 27)) a2 n2 c2 (ringL [k]) := ⟨by simp, by simp [go_sem], by simp [go_sem], SL.alloc hk2 _, KS.apart_new hk2 (by simp)⟩
      have hlt := KS.block_lt hk2 (by simp)
      refine ⟨hR.below ((Below.refl _ _).alloc (Nat.le_refl _) _), ?_, fun x hx => by have := hlt x hx; omega, fun x hx => by have := hlt x hx; simp; omega⟩
      have := Own.new keyC_length (w2.alloc (.cells #[.slice a2 n2 c2] 27)) (w2.heap.size + 1) [k] 23 (by simp) (by unfold maxLen; simp)
      rw [rows_one, World.size_alloc] at this
      exact this
    have hsz3 : w2.heap.size ≤ W3.heap.size := by rw [hW3]; simp; omega
    have hrk : rowOf W3 W.heap.size 0 32 = some (keyC k) := by have := S0.rows; exact this.1.2
    have hlt2 : W.heap.size < w2.heap.size := hrows.1.1
    have hbW := S0.below
    replace hW3 := Lib.hid hW3
    clear hcells hrows S0 hk2 hf2 hb1 hb2
    generalize w2.heap.size = rb at *
    have H := Lib.hid h
    clear h
    go_loopw [8, 9] (fun v i wr => SinceB rb W3 wr ∧ ∃ j : Nat, j ≤ n ∧ i = .int .i64 j ∧ ∃ a' n' c' g cg, v = .slice (some ⟨g, 0, none⟩) (j + 1) cg ∧ Both rb wr a' n' c' g cg ([k] ++ l.take j)) (fun _ i _ => n - (intOf i).toNat)
    case atStart => exact ⟨SinceB.refl hsz3, 0, Nat.zero_le _, rfl, _, _, _, _, _, rfl, hB0⟩
    case round =>
      obtain ⟨hSB, j, hj, rfl, a', n', c', g, cg, rfl, hBo⟩ := hrel
      have hszr := hSB.size
      have hR := hBo.ring
      have C0 := hR.cell
      have C1 := hR.frozen
      have C2 := hR.lt
      have hn8 : n' ≤ 100000 := by have := hR.keys.1; have := ringL_le ([k] ++ l.take j); omega
      have hXl : ([k] ++ l.take j).length = j + 1 := by rw [List.length_append, List.length_take, ← HN.out]; simp; omega
      have hgl := hBo.g_lt
      by_cases hlt : j < n
      · have hlt' : j < l.length := by rw [← HN.out]; exact hlt
        have hx : l[j]? = some l[j] := List.getElem?_eq_getElem hlt'
        have hX1 : [k] ++ l.take (j + 1) = ([k] ++ l.take j) ++ [l[j]] := by rw [List.take_add_one, hx, List.append_assoc]; rfl
        obtain ⟨b', o', ha, hb', hr⟩ := SL.elem keyC_length H.out hx
        subst ha
        have R2 : rowOf wr b' (o' + j * 32) 32 = some (keyC l[j]) := hSB.row (by omega) (by rw [rowOf_congr (hbW.block _ hb')]; exact hr)
        have hs3 : b' < wr.heap.size := by omega
        generalize l[j] = x at *
        replace hx := Lib.hid hx
        replace hX1 := Lib.hid hX1
        replace hXl := Lib.hid hXl
        clear hr
        go_wp2_with fail
        have hall : ∀ w', SinceB rb wr w' → (rowOf w' b' (o' + j * 32) 32 = some (keyC x) ∧ b' < w'.heap.size) := fun w' h => ⟨h.row (by omega) R2, by have := h.size; omega⟩
        refine hreg_begin (S := SinceB rb wr) (by kernel_rfl) (SinceB.refl (by omega)).drew (fun hHeld => ?_)
        simp only [List.length_cons, List.length_nil, Nat.zero_add, Nat.reduceAdd, Array.replicate]
        refine hreg_take (i := 1) rfl (by kernel_rfl) (by kernel_rfl) (by kernel_rfl) hreg_panic (by rfl) hHeld ?_
        apply Exists.intro
        refine ⟨fun w' hw' => ?_, ?_⟩
        · have hf := hall w' hw'
          go_simp
          try go_bits
          exact yieldsV_mk rfl
        simp only [Act.put, List.setIfInBounds_toArray, List.set_cons_zero, List.set_cons_succ]
        refine hreg_take (i := 2) rfl (by kernel_rfl) (by kernel_rfl) (by kernel_rfl) hreg_panic (by rfl) hHeld ?_
        apply Exists.intro
        refine ⟨fun w' hw' => ?_, ?_⟩
        · have hf := hall w' hw'
          go_simp
          try go_bits
          exact yieldsV_mk rfl
        simp only [Act.put, List.setIfInBounds_toArray, List.set_cons_zero, List.set_cons_succ]
        refine hreg_take (i := 3) rfl (by kernel_rfl) (by kernel_rfl) (by kernel_rfl) hreg_panic (by rfl) hHeld ?_
        apply Exists.intro
        refine ⟨fun w' hw' => ?_, ?_⟩
        · have hf := hall w' hw'
          go_simp
          try go_bits
          exact yieldsV_mk rfl
        simp only [Act.put, List.setIfInBounds_toArray, List.set_cons_zero, List.set_cons_succ]
        refine hreg_take (i := 4) rfl (by kernel_rfl) (by kernel_rfl) (by kernel_rfl) hreg_panic (by rfl) hHeld ?_
        apply Exists.intro
        refine ⟨fun w' hw' => ?_, ?_⟩
        · have hf := hall w' hw'
          go_simp
          try go_bits
          exact yieldsV_mk rfl
        simp only [Act.put, List.setIfInBounds_toArray, List.set_cons_zero, List.set_cons_succ]
        refine wpAnyH_ready (rs := [0]) (by kernel_rfl) (by simp) ?_
        refine hreg_event (o := _) rfl (by rfl) (fun K hK => ?_) ?_
        · go_simp
          first
            | (go_at_call 15; refine (put_n a' n' c' _ x _ hR.drew.keys hn8).mono ?_; rintro e wn ⟨ap, np, cp, rfl, hkp, hb, hfp, hnp, -, -⟩; have hRn := hR.drew.below hb; have E0 := hRn.cell; have E1 := hRn.frozen; have E2 := hRn.lt; replace hnp := Lib.hid hnp)
            | skip
          refine hK.out _ _ ?_ (fun hHeld' => ?_)
          · first
              | exact hHeld.setCell (Nat.le_refl _) _
              | exact hHeld.next hb
              | exact hHeld
              | exact hHeld.alloc _
              | exact hHeld.setCell (by simp <;> omega) _
              | exact (hHeld.alloc _).alloc _
          replace hHeld := hHeld'
          clear hHeld' hK K
          simp only [Act.put, List.setIfInBounds_toArray, List.set_cons_zero, List.set_cons_succ]
          refine wpAnyH_ready (rs := [5]) (by kernel_rfl) (by simp) ?_
          refine hreg_event (o := _) rfl (by rfl) (fun K hK => ?_) ?_
          · go_simp
            first
              | (go_at_call 15; refine (put_n a' n' c' _ x _ hR.drew.keys hn8).mono ?_; rintro e wn ⟨ap, np, cp, rfl, hkp, hb, hfp, hnp, -, -⟩; have hRn := hR.drew.below hb; have E0 := hRn.cell; have E1 := hRn.frozen; have E2 := hRn.lt; replace hnp := Lib.hid hnp)
              | skip
            refine hK.out _ _ ?_ (fun hHeld' => ?_)
            · first
                | exact hHeld.setCell (Nat.le_refl _) _
                | exact hHeld.next hb
                | exact hHeld
                | exact hHeld.alloc _
                | exact hHeld.setCell (by simp <;> omega) _
                | exact (hHeld.alloc _).alloc _
            replace hHeld := hHeld'
            clear hHeld' hK K
            simp only [Act.put, List.setIfInBounds_toArray, List.set_cons_zero, List.set_cons_succ]
            refine wpAnyH_ready (rs := [6]) (by kernel_rfl) (by simp) ?_
            refine hreg_event (o := _) rfl (by rfl) (fun K hK => ?_) ?_
            · go_simp
              first
                | (go_at_call 15; refine (put_n a' n' c' _ x _ hR.drew.keys hn8).mono ?_; rintro e wn ⟨ap, np, cp, rfl, hkp, hb, hfp, hnp, -, -⟩; have hRn := hR.drew.below hb; have E0 := hRn.cell; have E1 := hRn.frozen; have E2 := hRn.lt; replace hnp := Lib.hid hnp)
                | skip
              refine hK.out _ _ ?_ (fun hHeld' => ?_)
              · first
                  | exact hHeld.setCell (Nat.le_refl _) _
                  | exact hHeld.next hb
                  | exact hHeld
                  | exact hHeld.alloc _
                  | exact hHeld.setCell (by simp <;> omega) _
                  | exact (hHeld.alloc _).alloc _
              replace hHeld := hHeld'
              clear hHeld' hK K
              simp only [Act.put, List.setIfInBounds_toArray, List.set_cons_zero, List.set_cons_succ]
              refine wpAnyH_done (by kernel_rfl) ?_ _
              refine NoPanic.normal ?_
              obtain ⟨hR5, hA5, hap5, hlt5⟩ := (hBo.below ((Below.refl _ _).drew)).put hb hkp hfp
              obtain ⟨w7, hw7⟩ : ∃ w7, w7 = wn.setCell ⟨rb, 0, none⟩ (.slice ap np cp) := ⟨_, rfl⟩
              rw [← hw7] at hR5 hA5 hlt5 hHeld ⊢
              have R7 := (hall _ hHeld).1
              have hs7 := (hall _ hHeld).2
              have hgl7 : rb + 1 ≤ w7.heap.size := by have := hHeld.size; omega
              replace hw7 := Lib.hid hw7
              rw [hXl.out] at hA5
              go_wp2
              obtain ⟨g', cg', w8, hap, hown, hgr, hgg⟩ := app_k1g (ty := 24) hA5 hgl7 x (by rw [hXl.out]; omega)
              rw [hXl.out] at hap hown
              rw [hap]
              replace hap := Lib.hid hap
              go_wp2
              have hBn : Both rb w8 ap np cp g' cg' ([k] ++ l.take (j + 1)) := by rw [hX1.out]; exact Both.grow hR5 hap5 hlt5 hgl.1 (by rw [hXl.out]; exact hown) hgr hgg
              go_roundw
              case rel => exact ⟨((hSB.trans hHeld).alloc _).grown hgr (fun b hb => by have : g = b := (by simpa [Value.ownBlock] using hb); omega), j + 1, by omega, by go_num, _, _, _, _, _, rfl, hBn⟩
              case measure => simp [intOf]; omega
            exact AllReadyH.nil
          exact AllReadyH.nil
        exact AllReadyH.nil
      · obtain rfl : j = n := by omega
        by_cases hq : U % 5 ≤ j
        · have hq1 : (U : Int) % 5 ≤ (j : Int) := by omega
          go_wp2_with fail
          obtain ⟨M, hM⟩ : ∃ M, M = U % 5 := ⟨_, rfl⟩
          rw [show ((U : Int) % 5) = (M : Int) from by omega]
          have hM4 : M ≤ 4 := by omega
          have hMj : M ≤ j := by omega
          replace hM := Lib.hid hM
          clear hq hq1
          have hA := hBo.all
          rw [hXl] at hA
          have hAK := hA.sl'.2
          have hcg : j + 1 ≤ cg := hAK.2.1
          have hAg := hBo.g_lt
          obtain ⟨X, hX⟩ : ∃ X, X = [k] ++ l.take j := ⟨_, rfl⟩
          rw [← hX] at hAK hR hXl hA
          have hXne : X ≠ [] := by rw [hX]; simp
          have hbL := hbW.trans (hSB.out.mono (by omega))
          replace hX := Lib.hid hX
          replace hXl := Lib.hid hXl
          obtain ⟨wb, hwb⟩ : ∃ wb, wb = wr := ⟨_, rfl⟩
          subst hwb
          replace hA := Lib.hid hA
          rw [← backN_zero] at hR
          clear C0 C1 C2 hBo
          go_loopw [11, 12, 13] (fun i _ _ wr => SinceB rb W3 wr ∧ KOwn wr (rb + 1) (.slice (some ⟨g, 0, none⟩) (j + 1) cg) X ∧ ∃ t : Nat, t ≤ M ∧ i = .int .i64 t ∧ ∃ a' n' c', RingAt rb wr a' n' c' (backN X t)) (fun i _ _ _ => M - (intOf i).toNat)
          case atStart => exact ⟨hSB, hA.out, 0, Nat.zero_le _, rfl, _, _, _, hR⟩
          case round =>
            obtain ⟨hSw, hAw, t, ht, rfl, a1, n1, c1, hRt⟩ := hrel
            have C0 := hRt.cell
            have C1 := hRt.frozen
            have C2 := hRt.lt
            have hszw := hSw.size
            have hn1 : n1 ≤ 100000 := by have := hRt.keys.1; rw [backN_length] at this; omega
            by_cases hlt : t < M
            · have hlti : (t : Int) < ((M : Nat) : Int) := by omega
              obtain ⟨hbe, hbl⟩ := backN_succ (X := X) (t := t) (by rw [hXl.out]; omega)
              replace hbl := Lib.hid hbl
              replace hAw := Lib.hid hAw
              go_wp2_with fail
              refine (back_n a1 n1 c1 (backN X t) _ hRt.keys hn1).mono ?_
              rintro e w6 ⟨a6, n6, c6, rfl, hk6, hb6, hf6, hn6, -, -⟩
              rw [hbe]
              rw [hbl.out] at hk6
              have hRb := hRt.below hb6
              have D0 := hRb.cell
              have D1 := hRb.frozen
              have D2 := hRb.lt
              replace hn6 := Lib.hid hn6
              go_wp2
              go_roundw
              case rel => exact ⟨((hSw.next hb6).setCell (Nat.le_refl _) _).alloc _, ((hAw.out.below hb6).setBelow (Nat.lt_succ_self _) _).below ((Below.refl _ _).alloc (Nat.le_refl _) _), t + 1, by omega, by go_num, _, _, _, (hRt.store hb6 hk6 hf6).below ((Below.refl _ _).alloc (Nat.le_refl _) _)⟩
              case measure => simp [intOf]; omega
            · obtain rfl : t = M := by omega
              have hkl := hRt.keys
              go_wp2_with fail
              obtain ⟨P, hN⟩ : ∃ P, P + 1 = j + 1 - t := ⟨j - t, by omega⟩
              rw [← hN]
              have hNj : P ≤ j := by omega
              replace hN := Lib.hid hN
              obtain ⟨wc, hwc⟩ : ∃ wc, wc = wr := ⟨_, rfl⟩
              subst hwc
              have hAK2 := hAw.sl'.2
              clear hA hAw C0 C1 C2 hkl
              have hrkc : rowOf wc W.heap.size 0 32 = some (keyC k) := hSw.row hlt2 hrk
              have hs0 : W.heap.size < wc.heap.size := by omega
              have hbc := hbW.trans (hSw.out.mono (by omega))
              go_loopw [14] (fun i wr => Since wc wr ∧ ∃ s : Nat, s ≤ 4 ∧ s ≤ P + 1 ∧ i = .int .i64 s) (fun i _ => 4 - (intOf i).toNat)
              case atStart => exact ⟨Below.refl _ _, 0, by omega, by omega, rfl⟩
              case round =>
                obtain ⟨hSx, s, hs4, hsN, rfl⟩ := hrel
                have hKr := SL.below hAK2 hSx
                have hRr := hRt.below hSx
                have D0 := hRr.cell
                have D2 := hRr.lt
                by_cases hc : s < 4 ∧ s < P + 1
                · obtain ⟨hc1, hc2⟩ := hc
                  have hlX : P - s < X.length := by rw [hXl.out]; omega
                  have hy : X[P - s]? = some X[P - s] := List.getElem?_eq_getElem hlX
                  have hh := hasB_backN (X := X) (m := t) (i := s) (by omega) hc1 (by have := hN.out; rw [hXl.out]; omega) (y := X[P - s]) (by rw [show X.length - t - 1 - s = P - s from by have := hN.out; rw [hXl.out]; omega]; exact hy)
                  obtain ⟨bg, og, hg, hbg, hrg⟩ := SL.elem keyC_length hKr hy
                  injection hg with hg
                  injection hg with hg1 hg2
                  subst hg1 hg2
                  generalize X[P - s] = y at *
                  clear hy
                  have hbg' : g < wr.heap.size := hbg
                  rw [Nat.zero_add] at hrg
                  have hsN' : s ≤ P := by omega
                  have hi1 : (P : Int) - (s : Int) < (P : Int) + 1 := by omega
                  have hnr : n1 ≤ 1000000 := by have := hRt.keys.1; rw [backN_length] at this; omega
                  replace hh := Lib.hid hh
                  have hh' := hh.out
                  go_wp2
                  (refine region_since (by kernel_rfl) (by kernel_rfl) ?_)
                  repeat (first
                    | (refine wpQuiet_goff rfl rfl rfl rfl ?_; simp only [Act.put, List.setIfInBounds_toArray, List.set_cons_succ, List.set_cons_zero])
                    | (first
                         | refine wpQuiet_free rfl ?_
                         | refine wpQuiet_gon rfl rfl rfl rfl ?_
                       apply Exists.intro
                       refine ⟨fun w' hw' => ?_, ?_⟩
                       · (obtain ⟨hc', hr', hs'⟩ := since_facts hw'
                          unfold Oper.quietAt
                          go_simp
                          try go_bits
                          first
                            | exact quietUpon_value rfl
                            | (apply quietUpon_enter
                               first
                               | (go_at_call 16; exact calls_since hw' (has_n a1 n1 c1 (backN X t) y _ (SL.below hRr.keys hw') hnr))))
                       simp only [Act.put, List.setIfInBounds_toArray, List.set_cons_succ, List.set_cons_zero]))
                  first
                    | refine wpQuiet_nil ?_
                    | fail "QUIET stopped"
                  intro wq hwq'
                  rw [hh']
                  go_wp2
                  go_roundw
                  case rel => exact ⟨since_next hSx hwq', s + 1, by omega, by omega, by go_num⟩
                  case measure => simp [intOf]; omega
                · have Rk : rowOf wr W.heap.size 0 32 = some (keyC k) := by rw [rowOf_congr (Below.block hSx _ hs0)]; exact hrkc
                  have hs1 : W.heap.size < wr.heap.size := by have := Below.size hSx; omega
                  have ht4 : s = 4 ∨ (s < 4 ∧ s = P + 1) := by omega
                  rcases ht4 with rfl | ⟨h4, rfl⟩
                  all_goals
                    go_wp2_with fail
                    refine (new_n k _).mono ?_
                    rintro e w8 ⟨a8, n8, c8, rfl, hk8, hb8, hf8, hn8', -, -⟩
                    replace hn8' := Lib.hid hn8'
                    go_wp2_with fail
                    refine (back_n a8 n8 c8 [k] _ hk8 (by rw [hn8'.out]; simp)).mono ?_
                    rintro e w9 ⟨a9, n9, c9, rfl, hk9, hb9, hf9, hn9, -, -⟩
                    rw [show backE [k] = 166 from rfl]
                    go_wp2
                    go_ret
                    exact gives_bool rfl (since_next (since_next (since_next hbc hSx) hb8) (hb9.alloc (Nat.le_trans (Nat.le_refl _) hb9.size) _))
        · have hq1 : (j : Int) ≤ (U : Int) % 5 := by omega
          have hM4 : j ≤ 4 := by omega
          go_wp2_with fail
          clear hq hq1
          have hA := hBo.all
          rw [hXl] at hA
          have hAK := hA.sl'.2
          have hcg : j + 1 ≤ cg := hAK.2.1
          have hAg := hBo.g_lt
          obtain ⟨X, hX⟩ : ∃ X, X = [k] ++ l.take j := ⟨_, rfl⟩
          rw [← hX] at hAK hR hXl hA
          have hXne : X ≠ [] := by rw [hX]; simp
          have hbL := hbW.trans (hSB.out.mono (by omega))
          replace hX := Lib.hid hX
          replace hXl := Lib.hid hXl
          obtain ⟨wb, hwb⟩ : ∃ wb, wb = wr := ⟨_, rfl⟩
          subst hwb
          replace hA := Lib.hid hA
          rw [← backN_zero] at hR
          clear C0 C1 C2 hBo
          go_loopw [11, 12, 13] (fun i _ _ wr => SinceB rb W3 wr ∧ KOwn wr (rb + 1) (.slice (some ⟨g, 0, none⟩) (j + 1) cg) X ∧ ∃ t : Nat, t ≤ j ∧ i = .int .i64 t ∧ ∃ a' n' c', RingAt rb wr a' n' c' (backN X t)) (fun i _ _ _ => j - (intOf i).toNat)
          case atStart => exact ⟨hSB, hA.out, 0, Nat.zero_le _, rfl, _, _, _, hR⟩
          case round =>
            obtain ⟨hSw, hAw, t, ht, rfl, a1, n1, c1, hRt⟩ := hrel
            have C0 := hRt.cell
            have C1 := hRt.frozen
            have C2 := hRt.lt
            have hszw := hSw.size
            have hn1 : n1 ≤ 100000 := by have := hRt.keys.1; rw [backN_length] at this; omega
            by_cases hlt2' : t < j
            · have hlti : (t : Int) < ((j : Nat) : Int) := by omega
              obtain ⟨hbe, hbl⟩ := backN_succ (X := X) (t := t) (by rw [hXl.out]; omega)
              replace hbl := Lib.hid hbl
              replace hAw := Lib.hid hAw
              go_wp2_with fail
              refine (back_n a1 n1 c1 (backN X t) _ hRt.keys hn1).mono ?_
              rintro e w6 ⟨a6, n6, c6, rfl, hk6, hb6, hf6, hn6, -, -⟩
              rw [hbe]
              rw [hbl.out] at hk6
              have hRb := hRt.below hb6
              have D0 := hRb.cell
              have D1 := hRb.frozen
              have D2 := hRb.lt
              replace hn6 := Lib.hid hn6
              go_wp2
              go_roundw
              case rel => exact ⟨((hSw.next hb6).setCell (Nat.le_refl _) _).alloc _, ((hAw.out.below hb6).setBelow (Nat.lt_succ_self _) _).below ((Below.refl _ _).alloc (Nat.le_refl _) _), t + 1, by omega, by go_num, _, _, _, (hRt.store hb6 hk6 hf6).below ((Below.refl _ _).alloc (Nat.le_refl _) _)⟩
              case measure => simp [intOf]; omega
            · obtain rfl : j = t := by omega
              have hkl := hRt.keys
              go_wp2_with fail
              try rw [show j + 1 - j = 1 from by omega]
              obtain ⟨wc, hwc⟩ : ∃ wc, wc = wr := ⟨_, rfl⟩
              subst hwc
              have hAK2 := hAw.sl'.2
              clear hA hAw C0 C1 C2 hkl
              have hrkc : rowOf wc W.heap.size 0 32 = some (keyC k) := hSw.row hlt2 hrk
              have hs0 : W.heap.size < wc.heap.size := by omega
              have hbc := hbW.trans (hSw.out.mono (by omega))
              go_loopw [14] (fun i wr => Since wc wr ∧ ∃ s : Nat, s ≤ 4 ∧ s ≤ 1 ∧ i = .int .i64 s) (fun i _ => 4 - (intOf i).toNat)
              case atStart => exact ⟨Below.refl _ _, 0, by omega, by omega, rfl⟩
              case round =>
                obtain ⟨hSx, s, hs4, hsN, rfl⟩ := hrel
                have hKr := SL.below hAK2 hSx
                have hRr := hRt.below hSx
                have D0 := hRr.cell
                have D2 := hRr.lt
                by_cases hc : s = 0
                · subst hc
                  have hlX : 0 < X.length := by rw [hXl.out]; omega
                  have hy : X[0]? = some X[0] := List.getElem?_eq_getElem hlX
                  have hh := hasB_backN (X := X) (m := j) (i := 0) (by omega) (by omega) (by rw [hXl.out]; omega) (y := X[0]) (by rw [show X.length - j - 1 - 0 = 0 from by rw [hXl.out]; omega]; exact hy)
                  obtain ⟨bg, og, hg, hbg, hrg⟩ := SL.elem keyC_length hKr hy
                  injection hg with hg
                  injection hg with hg1 hg2
                  subst hg1 hg2
                  generalize X[0] = y at *
                  clear hy
                  have hbg' : g < wr.heap.size := hbg
                  rw [Nat.zero_add] at hrg
                  have hnr : n1 ≤ 1000000 := by have := hRt.keys.1; rw [backN_length] at this; omega
                  replace hh := Lib.hid hh
                  have hh' := hh.out
                  go_wp2
                  (refine region_since (by kernel_rfl) (by kernel_rfl) ?_)
                  repeat (first
                    | (refine wpQuiet_goff rfl rfl rfl rfl ?_; simp only [Act.put, List.setIfInBounds_toArray, List.set_cons_succ, List.set_cons_zero])
                    | (first
                         | refine wpQuiet_free rfl ?_
                         | refine wpQuiet_gon rfl rfl rfl rfl ?_
                       apply Exists.intro
                       refine ⟨fun w' hw' => ?_, ?_⟩
                       · (obtain ⟨hc', hr', hs'⟩ := since_facts hw'
                          unfold Oper.quietAt
                          go_simp
                          try go_bits
                          first
                            | exact quietUpon_value rfl
                            | (apply quietUpon_enter
                               first
                               | (go_at_call 16; exact calls_since hw' (has_n a1 n1 c1 (backN X j) y _ (SL.below hRr.keys hw') hnr))))
                       simp only [Act.put, List.setIfInBounds_toArray, List.set_cons_succ, List.set_cons_zero]))
                  first
                    | refine wpQuiet_nil ?_
                    | fail "QUIET stopped"
                  intro wq hwq'
                  rw [hh']
                  go_wp2
                  go_roundw
                  case rel => exact ⟨since_next hSx hwq', 1, by omega, by omega, by go_num⟩
                  case measure => simp [intOf] <;> omega
                · have Rk : rowOf wr W.heap.size 0 32 = some (keyC k) := by rw [rowOf_congr (Below.block hSx _ hs0)]; exact hrkc
                  have hs1 : W.heap.size < wr.heap.size := by have := Below.size hSx; omega
                  obtain rfl : s = 1 := by omega
                  all_goals
                    go_wp2_with fail
                    refine (new_n k _).mono ?_
                    rintro e w8 ⟨a8, n8, c8, rfl, hk8, hb8, hf8, hn8', -, -⟩
                    replace hn8' := Lib.hid hn8'
                    go_wp2_with fail
                    refine (back_n a8 n8 c8 [k] _ hk8 (by rw [hn8'.out]; simp)).mono ?_
                    rintro e w9 ⟨a9, n9, c9, rfl, hk9, hb9, hf9, hn9, -, -⟩
                    rw [show backE [k] = 166 from rfl]
                    go_wp2
                    go_ret
                    exact gives_bool rfl (since_next (since_next (since_next hbc hSx) hb8) (hb9.alloc (Nat.le_trans (Nat.le_refl _) hb9.size) _))

end Go.Proofs.Ytpgaibihfplhcaa
