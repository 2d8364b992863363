/- Layer 15: what any verdicts say of any item, and of all, is the document's. -/
import Derived.Test.YtpgaibihfplhcaaOracleItems
import Derived.Test.YtpgaibihfplhcaaOracle3
namespace Go.Proofs.Ytpgaibihfplhcaa
open Go.RowKit
set_option linter.unusedVariables false
set_option linter.unusedSimpArgs false
attribute [local irreducible] Int.lt Int.le
attribute [local go_sem ↓] load_key store_key alloc_key build0_key one_key eq_key build1_key load_tx store_tx alloc_tx build0_tx load_ver load_rver eq_rver
attribute [local go_sem] rowOf_drew rowOf_alloc_old rowOf_alloc_new canPut_drew canPut_alloc_old canPut_alloc_new setCells_alloc_new

theorem verB_self (v : Verd) : verB v v = true := by unfold verB; simp
theorem goodI_le (k : Key) (m : Int) : (goodI k m).length ≤ 1000 := by
  unfold goodI
  split
  · simp
  · rw [goodL_length]; omega

set_option maxRecDepth 100000 in
set_option maxHeartbeats 4000000 in
theorem oracleTells_walk (a : Option Addr) (n c : Nat) (l : List Verd) (t : TxV) (k : Key) (i0 : Int) (q : Nat) (W : World) (h : VL W a n c l) (hi : -9223372036854775808 ≤ i0 ∧ i0 ≤ 9223372036854775807) (hq : q ≤ 255) (hN : (t.ins.len : Int) + t.nulls.len + t.notes.len ≤ 4611686018427387904) : Calls Try.prog 8 #[.slice a n c, .agg (txC t).toArray, .agg (keyC k).toArray, .int .i64 i0, .int .u8 q] W (LawEnd W) := by
  have hl := Box.mk h.1
  have H := Box.mk h
  clear h
  by_cases hn : 200 < n
  · go_enter Try.func8, Try.ntmps8
    go_wp2_with fail
    refine (shown15 _).mono ?_
    rintro e w2 ⟨rfl, hb2⟩
    go_wp2
    go_ret
    exact gives_bool rfl (Below.of hb2 (by simp <;> omega) (((Below.refl _ _).alloc (Nat.le_refl _) _).alloc (by simp) _))
  · have hn2 : n ≤ 100000 := by omega
    go_enter Try.func8, Try.ntmps8
    go_wp2_with fail
    have hB0 : Below W.heap.size W ((W.alloc (.cells (txC t).toArray 47)).alloc (.cells (keyC k).toArray 23)) := ((Below.refl _ _).alloc (Nat.le_refl _) _).alloc (by simp) _
    have T0 : rowOf ((W.alloc (.cells (txC t).toArray 47)).alloc (.cells (keyC k).toArray 23)) W.heap.size 0 38 = some (txC t) := by simp [go_sem]
    have K0 : rowOf ((W.alloc (.cells (txC t).toArray 47)).alloc (.cells (keyC k).toArray 23)) (W.heap.size + 1) 0 32 = some (keyC k) := rowOf_alloc_new _ _ _ _ _ _ (by simp) (keyC_length k)
    obtain ⟨w0, hw0⟩ : ∃ w0, w0 = (W.alloc (.cells (txC t).toArray 47)).alloc (.cells (keyC k).toArray 23) := ⟨_, rfl⟩
    have hsz0 : w0.heap.size = W.heap.size + 2 := by rw [hw0]; simp
    rw [← hw0] at hB0 T0 K0 ⊢
    replace hw0 := Box.mk hw0
    have hF : ∀ w', Below w0.heap.size w0 w' → (rowOf w' W.heap.size 0 38 = some (txC t) ∧ rowOf w' (W.heap.size + 1) 0 32 = some (keyC k) ∧ W.heap.size < w'.heap.size ∧ W.heap.size + 1 < w'.heap.size) := fun w' h => ⟨by rw [rowOf_congr (h.block _ (by omega))]; exact T0, by rw [rowOf_congr (h.block _ (by omega))]; exact K0, by have := h.size; omega, by have := h.size; omega⟩
    replace hF := Box.mk hF
    clear T0 K0
    obtain ⟨m, hm⟩ : ∃ m : Int, (t.ins.len : Int) + t.nulls.len + t.notes.len = m := ⟨_, rfl⟩
    have C1 := fun (w' : World) => items_any t w' hN
    have C2 := fun (w' : World) => ritems_any t w' hN
    simp only [hm] at C1 C2
    replace C1 := Box.mk C1
    replace C2 := Box.mk C2
    replace hm := Box.mk hm
    replace hN := Box.mk hN
    refine (shown15 _).mono ?_
    rintro e w1 ⟨rfl, hb1⟩
    obtain ⟨x1, x2, x3, x4⟩ := hF.out w1 hb1
    go_wp2_with fail
    refine (good_all k _ w1).mono ?_
    rintro e w2 ⟨aa, na, ca, rfl, hA, hna, hb2, _⟩
    have hB2 := since_next hb1 hb2
    obtain ⟨y1, y2, y3, y4⟩ := hF.out w2 hB2
    clear x1 x2 x3 x4
    replace hA := Box.mk hA
    replace hna := Box.mk hna
    go_wp2_with fail
    refine (rgood_any k _ w2).mono ?_
    rintro e w3 ⟨ab, nb, cb, rfl, hR, hnb, hb3, _⟩
    have hB3 := since_next hB2 hb3
    obtain ⟨z1, z2, z3, z4⟩ := hF.out w3 hB3
    clear y1 y2 y3 y4
    have hA3 : Box (VL w3 aa na ca (goodI k (i0.tmod 1200))) := Box.mk (hA.out.below hb3)
    clear hA
    have hg := goodI_le k (i0.tmod 1200)
    generalize goodI k (i0.tmod 1200) = G at *
    obtain rfl : nb = na := by rw [hnb, hna.out]
    have hG1 : nb ≤ 1000 := by rw [hnb]; exact hg
    replace hnb := Box.mk hnb
    have hR3 : Box (VL w3 ab nb cb G) := Box.mk hR
    have cap1 := hA3.out.2.1
    have cap2 := hR.2.1
    clear hR hg
    go_wp2_with fail
    go_loopw [13] (fun i wr => Below w3.heap.size w3 wr ∧ ∃ j : Nat, j ≤ nb ∧ i = .int .i64 j) (fun i _ => nb - (intOf i).toNat)
    case atStart => exact ⟨Below.refl _ _, 0, Nat.zero_le _, rfl⟩
    case round =>
      obtain ⟨hbr, j, hj, rfl⟩ := hrel
      have hsz := hbr.size
      by_cases hlt : j < nb
      · have hlt' : (j : Int) < (nb : Int) := by omega
        have hjl : j < G.length := by rw [← hnb.out]; exact hlt
        have hx : G[j]? = some G[j] := List.getElem?_eq_getElem hjl
        obtain ⟨b, o, rfl, hb, hr⟩ := SL.elem verC_length hA3.out hx
        obtain ⟨b', o', rfl, hb', hr'⟩ := SL.elem verC_length hR3.out hx
        have R1 : rowOf wr b (o + j * 34) 34 = some (verC G[j]) := by rw [rowOf_congr (hbr.block b hb)]; exact hr
        have R2 : rowOf wr b' (o' + j * 34) 34 = some (verC G[j]) := by rw [rowOf_congr (hbr.block b' hb')]; exact hr'
        have s1 : b < wr.heap.size := by omega
        have s2 : b' < wr.heap.size := by omega
        generalize G[j] = v at *
        have hs := verB_self v
        replace hx := Box.mk hx
        replace hr := Box.mk hr
        replace hr' := Box.mk hr'
        go_wp2_with fail
        (refine region_since (by kernel_rfl) (by kernel_rfl) ?_)
        repeat (first
          | (refine wpQuiet_goff rfl rfl rfl rfl ?_; simp only [Act.put, List.setIfInBounds_toArray, List.set_cons_succ, List.set_cons_zero])
          | (first
               | refine wpQuiet_free rfl ?_
               | refine wpQuiet_gon rfl rfl rfl rfl ?_
             apply Exists.intro
             refine ⟨fun w' hw' => ?_, ?_⟩
             · (obtain ⟨hc', hr', hs'⟩ := since_facts hw'
                unfold Oper.quietAt
                go_simp
                try go_bits
                first
                  | exact quietUpon_value rfl
                  | (apply quietUpon_enter
                     first
                     | fail))
             simp only [Act.put, List.setIfInBounds_toArray, List.set_cons_succ, List.set_cons_zero]))
        first
          | refine wpQuiet_nil ?_
          | fail "QUIET stopped"
        intro wq hwq'
        go_wp2
        go_roundw
        case rel => exact ⟨since_next hbr hwq', j + 1, by omega, by go_num⟩
        case measure => simp [intOf]; omega
      · obtain rfl : j = nb := by omega
        go_wp2_with fail
        have hBr := hB3.trans (hbr.mono (by have := hB3.size; omega))
        have H8 : Box (VL wr a n c l) := Box.mk (H.out.below (hB0.trans (hBr.mono (by omega))))
        obtain ⟨u1, u2, u3, u4⟩ := hF.out wr hBr
        obtain ⟨w8, hw8⟩ : ∃ w8, w8 = wr := ⟨_, rfl⟩
        subst hw8
        obtain ⟨tl, htl⟩ : ∃ b, lookL l k i0 = b := ⟨_, rfl⟩
        obtain ⟨ta, hta⟩ : ∃ b, allB l k q = b := ⟨_, rfl⟩
        have hq2 : (q : Int) ≤ 255 := by omega
        have D1 := fun (w' : World) (h : SinceP w8 w') => look_any a n c l k i0 w' (H8.out.below h.out) hn2
        have D2 := fun (w' : World) (h : SinceP w8 w') => all_any a n c l k q w' (H8.out.below h.out) hn2 (by omega)
        have D3 := fun (x : Option Addr) (y z : Nat) (w' : World) (h : VL w' x y z l) (hy : y ≤ 100000) => rlook_any x y z l k i0 w' h hy
        have D4 := fun (x : Option Addr) (y z : Nat) (w' : World) (h : VL w' x y z l) (hy : y ≤ 100000) => rall_any x y z l k q w' h hy (by omega)
        simp only [htl] at D1 D3
        simp only [hta] at D2 D4
        replace D1 := Box.mk D1
        replace D2 := Box.mk D2
        replace D3 := Box.mk D3
        replace D4 := Box.mk D4
        replace htl := Box.mk htl
        replace hta := Box.mk hta
        have hall : ∀ w', SinceP w8 w' → (rowOf w' W.heap.size 0 38 = some (txC t) ∧ rowOf w' (W.heap.size + 1) 0 32 = some (keyC k) ∧ W.heap.size < w'.heap.size ∧ W.heap.size + 1 < w'.heap.size) := fun w' h => hF.out w' (since_next hBr h.out)
        have hTh := fun (w' : World) (h : SinceP w8 w') => theirs_any a n c l w' (H8.out.below h.out) (by omega)
        replace hTh := Box.mk hTh
        have hlen : l.length ≤ 100000 := by rw [← hl.out]; exact hn2
        replace hlen := Box.mk hlen
        clear u1 u2 u3 u4 z1 z2 z3 z4
        refine hreg_begin (S := SinceP w8) (by kernel_rfl) (SinceP.refl _).drew (fun hHeld => ?_)
        simp only [List.length_cons, List.length_nil, Nat.zero_add, Nat.reduceAdd, Array.replicate]
        refine hreg_take (i := 0) rfl (by kernel_rfl) (by kernel_rfl) (by kernel_rfl) hreg_panic (by rfl) hHeld ?_
        apply Exists.intro
        refine ⟨fun w' hw' => ?_, ?_⟩
        · have hf := hall w' hw'
          go_simp
          try go_bits
          exact yieldsV_mk rfl
        simp only [Act.put, List.setIfInBounds_toArray, List.set_cons_zero, List.set_cons_succ]
        refine hreg_take (i := 2) rfl (by kernel_rfl) (by kernel_rfl) (by kernel_rfl) hreg_panic (by rfl) hHeld ?_
        apply Exists.intro
        refine ⟨fun w' hw' => ?_, ?_⟩
        · have hf := hall w' hw'
          go_simp
          try go_bits
          exact yieldsV_mk rfl
        simp only [Act.put, List.setIfInBounds_toArray, List.set_cons_zero, List.set_cons_succ]
        refine wpAnyH_ready (rs := [1]) (by kernel_rfl) (by simp) ?_
        refine hreg_event (o := _) rfl (by rfl) (fun K hK => ?_) ?_
        · go_simp
          first
            | (go_at_call 23; refine (C1.out _).mono ?_; rintro e wn ⟨rfl, hb⟩)
            | (go_at_call 24; refine (C2.out _).mono ?_; rintro e wn ⟨rfl, hb⟩)
            | (go_at_call 21; refine (D1.out _ hHeld).mono ?_; rintro e wn ⟨rfl, hb⟩)
            | (go_at_call 20; refine (D2.out _ hHeld).mono ?_; rintro e wn ⟨rfl, hb⟩)
            | (go_at_call 26; refine (hTh.out _ hHeld).mono ?_; rintro e wn ⟨xa, xn, xc, rfl, hT, hTn, hb, _⟩; have hTl : xn ≤ 100000 := (by rw [hTn]; exact hlen.out); replace hT := Box.mk hT; replace hTn := Box.mk hTn)
            | (go_at_call 25; refine (D3.out _ _ _ _ hT.out hTl).mono ?_; rintro e wn ⟨rfl, hb⟩)
            | (go_at_call 27; refine (D4.out _ _ _ _ hT.out hTl).mono ?_; rintro e wn ⟨rfl, hb⟩)
            | skip
          refine hK.out _ _ ?_ (fun hHeld' => ?_)
          · first
              | exact hHeld.next hb
              | exact hHeld
              | exact hHeld.alloc _
              | exact hHeld.setCell (by simp <;> omega) _
              | exact (hHeld.alloc _).alloc _
          replace hHeld := hHeld'
          clear hHeld' hK K
          simp only [Act.put, List.setIfInBounds_toArray, List.set_cons_zero, List.set_cons_succ]
          refine wpAnyH_ready (rs := [3]) (by kernel_rfl) (by simp) ?_
          refine hreg_event (o := _) rfl (by rfl) (fun K hK => ?_) ?_
          · go_simp
            first
              | (go_at_call 23; refine (C1.out _).mono ?_; rintro e wn ⟨rfl, hb⟩)
              | (go_at_call 24; refine (C2.out _).mono ?_; rintro e wn ⟨rfl, hb⟩)
              | (go_at_call 21; refine (D1.out _ hHeld).mono ?_; rintro e wn ⟨rfl, hb⟩)
              | (go_at_call 20; refine (D2.out _ hHeld).mono ?_; rintro e wn ⟨rfl, hb⟩)
              | (go_at_call 26; refine (hTh.out _ hHeld).mono ?_; rintro e wn ⟨xa, xn, xc, rfl, hT, hTn, hb, _⟩; have hTl : xn ≤ 100000 := (by rw [hTn]; exact hlen.out); replace hT := Box.mk hT; replace hTn := Box.mk hTn)
              | (go_at_call 25; refine (D3.out _ _ _ _ hT.out hTl).mono ?_; rintro e wn ⟨rfl, hb⟩)
              | (go_at_call 27; refine (D4.out _ _ _ _ hT.out hTl).mono ?_; rintro e wn ⟨rfl, hb⟩)
              | skip
            refine hK.out _ _ ?_ (fun hHeld' => ?_)
            · first
                | exact hHeld.next hb
                | exact hHeld
                | exact hHeld.alloc _
                | exact hHeld.setCell (by simp <;> omega) _
                | exact (hHeld.alloc _).alloc _
            replace hHeld := hHeld'
            clear hHeld' hK K
            simp only [Act.put, List.setIfInBounds_toArray, List.set_cons_zero, List.set_cons_succ]
            refine hreg_take (i := 4) rfl (by kernel_rfl) (by kernel_rfl) (by kernel_rfl) hreg_panic (by rfl) hHeld ?_
            apply Exists.intro
            refine ⟨fun w' hw' => ?_, ?_⟩
            · have hf := hall w' hw'
              go_simp
              try go_bits
              exact yieldsV_mk rfl
            simp only [Act.put, List.setIfInBounds_toArray, List.set_cons_zero, List.set_cons_succ]
            refine hreg_take (i := 5) rfl (by kernel_rfl) (by kernel_rfl) (by kernel_rfl) hreg_panic (by rfl) hHeld ?_
            apply Exists.intro
            refine ⟨fun w' hw' => ?_, ?_⟩
            · have hf := hall w' hw'
              go_simp
              try go_bits
              exact yieldsV_mk rfl
            simp only [Act.put, List.setIfInBounds_toArray, List.set_cons_zero, List.set_cons_succ]
            refine hreg_take (i := 6) rfl (by kernel_rfl) (by kernel_rfl) (by kernel_rfl) hreg_panic (by rfl) hHeld ?_
            apply Exists.intro
            refine ⟨fun w' hw' => ?_, ?_⟩
            · have hf := hall w' hw'
              go_simp
              try go_bits
              exact yieldsV_mk rfl
            simp only [Act.put, List.setIfInBounds_toArray, List.set_cons_zero, List.set_cons_succ]
            refine hreg_take (i := 7) rfl (by kernel_rfl) (by kernel_rfl) (by kernel_rfl) hreg_panic (by rfl) hHeld ?_
            apply Exists.intro
            refine ⟨fun w' hw' => ?_, ?_⟩
            · have hf := hall w' hw'
              go_simp
              try go_bits
              exact yieldsV_mk rfl
            simp only [Act.put, List.setIfInBounds_toArray, List.set_cons_zero, List.set_cons_succ]
            refine hreg_take (i := 8) rfl (by kernel_rfl) (by kernel_rfl) (by kernel_rfl) hreg_panic (by rfl) hHeld ?_
            apply Exists.intro
            refine ⟨fun w' hw' => ?_, ?_⟩
            · have hf := hall w' hw'
              go_simp
              try go_bits
              exact yieldsV_mk rfl
            simp only [Act.put, List.setIfInBounds_toArray, List.set_cons_zero, List.set_cons_succ]
            refine hreg_take (i := 10) rfl (by kernel_rfl) (by kernel_rfl) (by kernel_rfl) hreg_panic (by rfl) hHeld ?_
            apply Exists.intro
            refine ⟨fun w' hw' => ?_, ?_⟩
            · have hf := hall w' hw'
              go_simp
              try go_bits
              exact yieldsV_mk rfl
            simp only [Act.put, List.setIfInBounds_toArray, List.set_cons_zero, List.set_cons_succ]
            refine hreg_take (i := 12) rfl (by kernel_rfl) (by kernel_rfl) (by kernel_rfl) hreg_panic (by rfl) hHeld ?_
            apply Exists.intro
            refine ⟨fun w' hw' => ?_, ?_⟩
            · have hf := hall w' hw'
              go_simp
              try go_bits
              exact yieldsV_mk rfl
            simp only [Act.put, List.setIfInBounds_toArray, List.set_cons_zero, List.set_cons_succ]
            refine hreg_take (i := 13) rfl (by kernel_rfl) (by kernel_rfl) (by kernel_rfl) hreg_panic (by rfl) hHeld ?_
            apply Exists.intro
            refine ⟨fun w' hw' => ?_, ?_⟩
            · have hf := hall w' hw'
              go_simp
              try go_bits
              exact yieldsV_mk rfl
            simp only [Act.put, List.setIfInBounds_toArray, List.set_cons_zero, List.set_cons_succ]
            refine wpAnyH_ready (rs := [9]) (by kernel_rfl) (by simp) ?_
            refine hreg_event (o := _) rfl (by rfl) (fun K hK => ?_) ?_
            · go_simp
              first
                | (go_at_call 23; refine (C1.out _).mono ?_; rintro e wn ⟨rfl, hb⟩)
                | (go_at_call 24; refine (C2.out _).mono ?_; rintro e wn ⟨rfl, hb⟩)
                | (go_at_call 21; refine (D1.out _ hHeld).mono ?_; rintro e wn ⟨rfl, hb⟩)
                | (go_at_call 20; refine (D2.out _ hHeld).mono ?_; rintro e wn ⟨rfl, hb⟩)
                | (go_at_call 26; refine (hTh.out _ hHeld).mono ?_; rintro e wn ⟨xa, xn, xc, rfl, hT, hTn, hb, _⟩; have hTl : xn ≤ 100000 := (by rw [hTn]; exact hlen.out); replace hT := Box.mk hT; replace hTn := Box.mk hTn)
                | (go_at_call 25; refine (D3.out _ _ _ _ hT.out hTl).mono ?_; rintro e wn ⟨rfl, hb⟩)
                | (go_at_call 27; refine (D4.out _ _ _ _ hT.out hTl).mono ?_; rintro e wn ⟨rfl, hb⟩)
                | skip
              refine hK.out _ _ ?_ (fun hHeld' => ?_)
              · first
                  | exact hHeld.next hb
                  | exact hHeld
                  | exact hHeld.alloc _
                  | exact hHeld.setCell (by simp <;> omega) _
                  | exact (hHeld.alloc _).alloc _
              replace hHeld := hHeld'
              clear hHeld' hK K
              simp only [Act.put, List.setIfInBounds_toArray, List.set_cons_zero, List.set_cons_succ]
              refine wpAnyH_ready (rs := [11]) (by kernel_rfl) (by simp) ?_
              refine hreg_event (o := _) rfl (by rfl) (fun K hK => ?_) ?_
              · go_simp
                first
                  | (go_at_call 23; refine (C1.out _).mono ?_; rintro e wn ⟨rfl, hb⟩)
                  | (go_at_call 24; refine (C2.out _).mono ?_; rintro e wn ⟨rfl, hb⟩)
                  | (go_at_call 21; refine (D1.out _ hHeld).mono ?_; rintro e wn ⟨rfl, hb⟩)
                  | (go_at_call 20; refine (D2.out _ hHeld).mono ?_; rintro e wn ⟨rfl, hb⟩)
                  | (go_at_call 26; refine (hTh.out _ hHeld).mono ?_; rintro e wn ⟨xa, xn, xc, rfl, hT, hTn, hb, _⟩; have hTl : xn ≤ 100000 := (by rw [hTn]; exact hlen.out); replace hT := Box.mk hT; replace hTn := Box.mk hTn)
                  | (go_at_call 25; refine (D3.out _ _ _ _ hT.out hTl).mono ?_; rintro e wn ⟨rfl, hb⟩)
                  | (go_at_call 27; refine (D4.out _ _ _ _ hT.out hTl).mono ?_; rintro e wn ⟨rfl, hb⟩)
                  | skip
                refine hK.out _ _ ?_ (fun hHeld' => ?_)
                · first
                    | exact hHeld.next hb
                    | exact hHeld
                    | exact hHeld.alloc _
                    | exact hHeld.setCell (by simp <;> omega) _
                    | exact (hHeld.alloc _).alloc _
                replace hHeld := hHeld'
                clear hHeld' hK K
                simp only [Act.put, List.setIfInBounds_toArray, List.set_cons_zero, List.set_cons_succ]
                refine wpAnyH_ready (rs := [14]) (by kernel_rfl) (by simp) ?_
                refine hreg_event (o := _) rfl (by rfl) (fun K hK => ?_) ?_
                · go_simp
                  first
                    | (go_at_call 23; refine (C1.out _).mono ?_; rintro e wn ⟨rfl, hb⟩)
                    | (go_at_call 24; refine (C2.out _).mono ?_; rintro e wn ⟨rfl, hb⟩)
                    | (go_at_call 21; refine (D1.out _ hHeld).mono ?_; rintro e wn ⟨rfl, hb⟩)
                    | (go_at_call 20; refine (D2.out _ hHeld).mono ?_; rintro e wn ⟨rfl, hb⟩)
                    | (go_at_call 26; refine (hTh.out _ hHeld).mono ?_; rintro e wn ⟨xa, xn, xc, rfl, hT, hTn, hb, _⟩; have hTl : xn ≤ 100000 := (by rw [hTn]; exact hlen.out); replace hT := Box.mk hT; replace hTn := Box.mk hTn)
                    | (go_at_call 25; refine (D3.out _ _ _ _ hT.out hTl).mono ?_; rintro e wn ⟨rfl, hb⟩)
                    | (go_at_call 27; refine (D4.out _ _ _ _ hT.out hTl).mono ?_; rintro e wn ⟨rfl, hb⟩)
                    | skip
                  refine hK.out _ _ ?_ (fun hHeld' => ?_)
                  · first
                      | exact hHeld.next hb
                      | exact hHeld
                      | exact hHeld.alloc _
                      | exact hHeld.setCell (by simp <;> omega) _
                      | exact (hHeld.alloc _).alloc _
                  replace hHeld := hHeld'
                  clear hHeld' hK K
                  simp only [Act.put, List.setIfInBounds_toArray, List.set_cons_zero, List.set_cons_succ]
                  refine hreg_take (i := 15) rfl (by kernel_rfl) (by kernel_rfl) (by kernel_rfl) hreg_panic (by rfl) hHeld ?_
                  apply Exists.intro
                  refine ⟨fun w' hw' => ?_, ?_⟩
                  · have hf := hall w' hw'
                    go_simp
                    try go_bits
                    exact yieldsV_mk rfl
                  simp only [Act.put, List.setIfInBounds_toArray, List.set_cons_zero, List.set_cons_succ]
                  refine hreg_take (i := 16) rfl (by kernel_rfl) (by kernel_rfl) (by kernel_rfl) hreg_panic (by rfl) hHeld ?_
                  apply Exists.intro
                  refine ⟨fun w' hw' => ?_, ?_⟩
                  · have hf := hall w' hw'
                    go_simp
                    try go_bits
                    exact yieldsV_mk rfl
                  simp only [Act.put, List.setIfInBounds_toArray, List.set_cons_zero, List.set_cons_succ]
                  refine hreg_take (i := 17) rfl (by kernel_rfl) (by kernel_rfl) (by kernel_rfl) hreg_panic (by rfl) hHeld ?_
                  apply Exists.intro
                  refine ⟨fun w' hw' => ?_, ?_⟩
                  · have hf := hall w' hw'
                    go_simp
                    try go_bits
                    exact yieldsV_mk rfl
                  simp only [Act.put, List.setIfInBounds_toArray, List.set_cons_zero, List.set_cons_succ]
                  refine hreg_take (i := 18) rfl (by kernel_rfl) (by kernel_rfl) (by kernel_rfl) hreg_panic (by rfl) hHeld ?_
                  apply Exists.intro
                  refine ⟨fun w' hw' => ?_, ?_⟩
                  · have hf := hall w' hw'
                    go_simp
                    try go_bits
                    exact yieldsV_mk rfl
                  simp only [Act.put, List.setIfInBounds_toArray, List.set_cons_zero, List.set_cons_succ]
                  refine hreg_take (i := 19) rfl (by kernel_rfl) (by kernel_rfl) (by kernel_rfl) hreg_panic (by rfl) hHeld ?_
                  apply Exists.intro
                  refine ⟨fun w' hw' => ?_, ?_⟩
                  · have hf := hall w' hw'
                    go_simp
                    try go_bits
                    exact yieldsV_mk rfl
                  simp only [Act.put, List.setIfInBounds_toArray, List.set_cons_zero, List.set_cons_succ]
                  refine hreg_take (i := 20) rfl (by kernel_rfl) (by kernel_rfl) (by kernel_rfl) hreg_panic (by rfl) hHeld ?_
                  apply Exists.intro
                  refine ⟨fun w' hw' => ?_, ?_⟩
                  · have hf := hall w' hw'
                    go_simp
                    try go_bits
                    exact yieldsV_mk rfl
                  simp only [Act.put, List.setIfInBounds_toArray, List.set_cons_zero, List.set_cons_succ]
                  refine hreg_take (i := 21) rfl (by kernel_rfl) (by kernel_rfl) (by kernel_rfl) hreg_panic (by rfl) hHeld ?_
                  apply Exists.intro
                  refine ⟨fun w' hw' => ?_, ?_⟩
                  · have hf := hall w' hw'
                    go_simp
                    try go_bits
                    exact yieldsV_mk rfl
                  simp only [Act.put, List.setIfInBounds_toArray, List.set_cons_zero, List.set_cons_succ]
                  refine hreg_take (i := 23) rfl (by kernel_rfl) (by kernel_rfl) (by kernel_rfl) hreg_panic (by rfl) hHeld ?_
                  apply Exists.intro
                  refine ⟨fun w' hw' => ?_, ?_⟩
                  · have hf := hall w' hw'
                    go_simp
                    try go_bits
                    exact yieldsV_mk rfl
                  simp only [Act.put, List.setIfInBounds_toArray, List.set_cons_zero, List.set_cons_succ]
                  refine hreg_take (i := 25) rfl (by kernel_rfl) (by kernel_rfl) (by kernel_rfl) hreg_panic (by rfl) hHeld ?_
                  apply Exists.intro
                  refine ⟨fun w' hw' => ?_, ?_⟩
                  · have hf := hall w' hw'
                    go_simp
                    try go_bits
                    exact yieldsV_mk rfl
                  simp only [Act.put, List.setIfInBounds_toArray, List.set_cons_zero, List.set_cons_succ]
                  refine hreg_take (i := 26) rfl (by kernel_rfl) (by kernel_rfl) (by kernel_rfl) hreg_panic (by rfl) hHeld ?_
                  apply Exists.intro
                  refine ⟨fun w' hw' => ?_, ?_⟩
                  · have hf := hall w' hw'
                    go_simp
                    try go_bits
                    exact yieldsV_mk rfl
                  simp only [Act.put, List.setIfInBounds_toArray, List.set_cons_zero, List.set_cons_succ]
                  refine hreg_take (i := 27) rfl (by kernel_rfl) (by kernel_rfl) (by kernel_rfl) hreg_panic (by rfl) hHeld ?_
                  apply Exists.intro
                  refine ⟨fun w' hw' => ?_, ?_⟩
                  · have hf := hall w' hw'
                    go_simp
                    try go_bits
                    exact yieldsV_mk rfl
                  simp only [Act.put, List.setIfInBounds_toArray, List.set_cons_zero, List.set_cons_succ]
                  refine wpAnyH_ready (rs := [22]) (by kernel_rfl) (by simp) ?_
                  refine hreg_event (o := _) rfl (by rfl) (fun K hK => ?_) ?_
                  · go_simp
                    first
                      | (go_at_call 23; refine (C1.out _).mono ?_; rintro e wn ⟨rfl, hb⟩)
                      | (go_at_call 24; refine (C2.out _).mono ?_; rintro e wn ⟨rfl, hb⟩)
                      | (go_at_call 21; refine (D1.out _ hHeld).mono ?_; rintro e wn ⟨rfl, hb⟩)
                      | (go_at_call 20; refine (D2.out _ hHeld).mono ?_; rintro e wn ⟨rfl, hb⟩)
                      | (go_at_call 26; refine (hTh.out _ hHeld).mono ?_; rintro e wn ⟨xa, xn, xc, rfl, hT, hTn, hb, _⟩; have hTl : xn ≤ 100000 := (by rw [hTn]; exact hlen.out); replace hT := Box.mk hT; replace hTn := Box.mk hTn)
                      | (go_at_call 25; refine (D3.out _ _ _ _ hT.out hTl).mono ?_; rintro e wn ⟨rfl, hb⟩)
                      | (go_at_call 27; refine (D4.out _ _ _ _ hT.out hTl).mono ?_; rintro e wn ⟨rfl, hb⟩)
                      | skip
                    refine hK.out _ _ ?_ (fun hHeld' => ?_)
                    · first
                        | exact hHeld.next hb
                        | exact hHeld
                        | exact hHeld.alloc _
                        | exact hHeld.setCell (by simp <;> omega) _
                        | exact (hHeld.alloc _).alloc _
                    replace hHeld := hHeld'
                    clear hHeld' hK K
                    simp only [Act.put, List.setIfInBounds_toArray, List.set_cons_zero, List.set_cons_succ]
                    refine wpAnyH_ready (rs := [24]) (by kernel_rfl) (by simp) ?_
                    refine hreg_event (o := _) rfl (by rfl) (fun K hK => ?_) ?_
                    · go_simp
                      first
                        | (go_at_call 23; refine (C1.out _).mono ?_; rintro e wn ⟨rfl, hb⟩)
                        | (go_at_call 24; refine (C2.out _).mono ?_; rintro e wn ⟨rfl, hb⟩)
                        | (go_at_call 21; refine (D1.out _ hHeld).mono ?_; rintro e wn ⟨rfl, hb⟩)
                        | (go_at_call 20; refine (D2.out _ hHeld).mono ?_; rintro e wn ⟨rfl, hb⟩)
                        | (go_at_call 26; refine (hTh.out _ hHeld).mono ?_; rintro e wn ⟨xa, xn, xc, rfl, hT, hTn, hb, _⟩; have hTl : xn ≤ 100000 := (by rw [hTn]; exact hlen.out); replace hT := Box.mk hT; replace hTn := Box.mk hTn)
                        | (go_at_call 25; refine (D3.out _ _ _ _ hT.out hTl).mono ?_; rintro e wn ⟨rfl, hb⟩)
                        | (go_at_call 27; refine (D4.out _ _ _ _ hT.out hTl).mono ?_; rintro e wn ⟨rfl, hb⟩)
                        | skip
                      refine hK.out _ _ ?_ (fun hHeld' => ?_)
                      · first
                          | exact hHeld.next hb
                          | exact hHeld
                          | exact hHeld.alloc _
                          | exact hHeld.setCell (by simp <;> omega) _
                          | exact (hHeld.alloc _).alloc _
                      replace hHeld := hHeld'
                      clear hHeld' hK K
                      simp only [Act.put, List.setIfInBounds_toArray, List.set_cons_zero, List.set_cons_succ]
                      refine wpAnyH_ready (rs := [28]) (by kernel_rfl) (by simp) ?_
                      refine hreg_event (o := _) rfl (by rfl) (fun K hK => ?_) ?_
                      · go_simp
                        first
                          | (go_at_call 23; refine (C1.out _).mono ?_; rintro e wn ⟨rfl, hb⟩)
                          | (go_at_call 24; refine (C2.out _).mono ?_; rintro e wn ⟨rfl, hb⟩)
                          | (go_at_call 21; refine (D1.out _ hHeld).mono ?_; rintro e wn ⟨rfl, hb⟩)
                          | (go_at_call 20; refine (D2.out _ hHeld).mono ?_; rintro e wn ⟨rfl, hb⟩)
                          | (go_at_call 26; refine (hTh.out _ hHeld).mono ?_; rintro e wn ⟨xa, xn, xc, rfl, hT, hTn, hb, _⟩; have hTl : xn ≤ 100000 := (by rw [hTn]; exact hlen.out); replace hT := Box.mk hT; replace hTn := Box.mk hTn)
                          | (go_at_call 25; refine (D3.out _ _ _ _ hT.out hTl).mono ?_; rintro e wn ⟨rfl, hb⟩)
                          | (go_at_call 27; refine (D4.out _ _ _ _ hT.out hTl).mono ?_; rintro e wn ⟨rfl, hb⟩)
                          | skip
                        refine hK.out _ _ ?_ (fun hHeld' => ?_)
                        · first
                            | exact hHeld.next hb
                            | exact hHeld
                            | exact hHeld.alloc _
                            | exact hHeld.setCell (by simp <;> omega) _
                            | exact (hHeld.alloc _).alloc _
                        replace hHeld := hHeld'
                        clear hHeld' hK K
                        simp only [Act.put, List.setIfInBounds_toArray, List.set_cons_zero, List.set_cons_succ]
                        refine hreg_take (i := 29) rfl (by kernel_rfl) (by kernel_rfl) (by kernel_rfl) hreg_panic (by rfl) hHeld ?_
                        apply Exists.intro
                        refine ⟨fun w' hw' => ?_, ?_⟩
                        · have hf := hall w' hw'
                          go_simp
                          try go_bits
                          exact yieldsV_mk rfl
                        simp only [Act.put, List.setIfInBounds_toArray, List.set_cons_zero, List.set_cons_succ]
                        refine hreg_take (i := 30) rfl (by kernel_rfl) (by kernel_rfl) (by kernel_rfl) hreg_panic (by rfl) hHeld ?_
                        apply Exists.intro
                        refine ⟨fun w' hw' => ?_, ?_⟩
                        · have hf := hall w' hw'
                          go_simp
                          try go_bits
                          exact yieldsV_mk rfl
                        simp only [Act.put, List.setIfInBounds_toArray, List.set_cons_zero, List.set_cons_succ]
                        refine hreg_take (i := 31) rfl (by kernel_rfl) (by kernel_rfl) (by kernel_rfl) hreg_panic (by rfl) hHeld ?_
                        apply Exists.intro
                        refine ⟨fun w' hw' => ?_, ?_⟩
                        · have hf := hall w' hw'
                          go_simp
                          try go_bits
                          exact yieldsV_mk rfl
                        simp only [Act.put, List.setIfInBounds_toArray, List.set_cons_zero, List.set_cons_succ]
                        refine wpAnyH_done (by kernel_rfl) ?_ _
                        refine NoPanic.normal ?_
                        go_wp2
                        go_ret
                        exact gives_bool rfl (hB0.trans ((since_next hBr hHeld.out).mono (by omega)))
                      exact AllReadyH.nil
                    exact AllReadyH.nil
                  exact AllReadyH.nil
                exact AllReadyH.nil
              exact AllReadyH.nil
            exact AllReadyH.nil
          exact AllReadyH.nil
        exact AllReadyH.nil

end Go.Proofs.Ytpgaibihfplhcaa
