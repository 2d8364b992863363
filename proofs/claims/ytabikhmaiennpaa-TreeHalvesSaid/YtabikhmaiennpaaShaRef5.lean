/- Layer 1: the document's Sum, Double, Pair. -/
import Derived.Test.YtabikhmaiennpaaShaRef4
namespace Go.Proofs.Ytabikhmaiennpaa
open Go.RowKit
set_option linter.unusedVariables false
set_option linter.unusedSimpArgs false
set_option maxRecDepth 100000

attribute [local irreducible] kL h0L
attribute [local go_sem] kL_length h0L_length kL_row h0L_row St.row8
attribute [local irreducible] Int.lt Int.le
attribute [local go_sem] rowOf_drew rowOf_alloc_old rowOf_alloc_new canPut_drew canPut_alloc_old canPut_alloc_new setCells_alloc_new
attribute [local go_sem ↓] load_u8w store_u8w alloc_u8w load_key store_key alloc_key build0_key

set_option maxHeartbeats 4000000 in
theorem refSum_any (s : List UInt8) (W : World) (hs : s.length ≤ 1000000) : Calls Try.prog 21 #[.string (sB s)] W (Gives (.agg (keyC (sumK s)).toArray) W) := by
  obtain ⟨P, hP⟩ : ∃ P, padL s = P := ⟨_, rfl⟩
  obtain ⟨H, hH⟩ : ∃ H, blocksH h0L P (P.length / 64) = H := ⟨_, rfl⟩
  have hH8 : H.length = 8 := by rw [← hH]; exact blocksH_length _ _ _ h0L_length
  have hK : sumK s = ⟨digest H, digest_length H⟩ := by unfold sumK sumL; simp only [hP, hH]
  rw [hK]
  obtain ⟨kH, hkH⟩ : ∃ k : Key, k = ⟨digest H, digest_length H⟩ := ⟨_, rfl⟩
  have hkv : keyC kH = bC (digest H) := by rw [keyC_bC, hkH]
  rw [← hkH]
  replace hkH := Box.mk hkH
  have hPm : P.length % 64 = 0 := by rw [← hP]; exact padL_mod s
  have hPl : P.length ≤ 1000200 := by rw [← hP, padL_length]; omega
  replace hK := Box.mk hK
  go_enter Try.func21, Try.ntmps21
  go_wp2_with fail
  rw [h0_cells]
  simp only [h0L_row]
  go_simp
  go_wp2_with fail
  have hB1 : Below W.heap.size W ((W.alloc (.cells (keyC zeroKey).toArray 23)).alloc (.cells (uC h0L).toArray 52)) := ((Below.refl _ _).alloc (Nat.le_refl _) _).alloc (by simp) _
  have hR1 : ((W.alloc (.cells (keyC zeroKey).toArray 23)).alloc (.cells (uC h0L).toArray 52)).heap[W.heap.size + 1]? = _ := heap_alloc_new' _ _ _ (by simp)
  have hO1 : ((W.alloc (.cells (keyC zeroKey).toArray 23)).alloc (.cells (uC h0L).toArray 52)).heap[W.heap.size]? = _ := (Below.heap_alloc _ _ _ (by simp)).trans (heap_alloc_new W _)
  generalize (W.alloc (.cells (keyC zeroKey).toArray 23)).alloc (.cells (uC h0L).toArray 52) = w1 at *
  obtain ⟨ob, hob⟩ : ∃ b, W.heap.size = b := ⟨_, rfl⟩
  obtain ⟨hb, hhb⟩ : ∃ b, ob + 1 = b := ⟨_, rfl⟩
  rw [hob] at hB1 hR1 hO1
  rw [hhb] at hR1
  rw [hob, hhb]
  have hoh : ob < hb := by omega
  have hne : ob ≠ hb := by omega
  replace hob := Box.mk hob
  replace hhb := Box.mk hhb
  refine (refPad_any s w1 hs).mono ?_
  rintro e w4 ⟨rfl, hb4⟩
  rw [hP]
  replace hP := Box.mk hP
  have hl1 := (Array.getElem?_eq_some_iff.1 hR1).1
  have hR4 := keepBlock hb4 hR1
  have hO4 := keepBlock hb4 hO1
  have hB4 : Below ob W w4 := hB1.trans (hb4.mono (by omega))
  clear hR1 hO1 hB1 hb4 hl1
  have hR4' : w4.heap[hb]? = some (.cells (uC (stOf h0L).toL).toArray 52 (0, 0)) := by rw [← stOf_toL h0L_length]; exact hR4
  have hH' : blocksH (stOf h0L).toL (P.drop 0) (P.length / 64 - 0) = H := by rw [← stOf_toL h0L_length]; exact hH
  clear hR4 hH
  replace hR4' := Box.mk hR4'
  replace hO4 := Box.mk hO4
  replace hH' := Box.mk hH'
  go_wp2_with fail
  go_loopw [5] (fun x wr => Below ob W wr ∧ wr.heap[ob]? = some (.cells (keyC zeroKey).toArray 23 (0, 0)) ∧ ∃ j i st, i = 64 * j ∧ i ≤ P.length ∧ x = .int .i64 (i : Nat) ∧ wr.heap[hb]? = some (.cells (uC (St.toL st)).toArray 52 (0, 0)) ∧ blocksH (St.toL st) (P.drop i) (P.length / 64 - j) = H) (fun x _ => P.length - (intOf x).toNat)
  case atStart => exact ⟨hB4, hO4.out, 0, 0, stOf h0L, rfl, Nat.zero_le _, rfl, hR4'.out, hH'.out⟩
  case round =>
    clear hB4 hO4 hR4' hH'
    obtain ⟨hbr, hO, j, i, st, hij, hi, rfl, hR, hq⟩ := hrel
    have hib : (i : Int) ≤ 1000200 := by omega
    have hRl := (Array.getElem?_eq_some_iff.1 hR).1
    by_cases hlt : i < P.length
    · obtain ⟨e64, he⟩ : ∃ e, i + 64 = e := ⟨_, rfl⟩
      have he1 : (i : Int) + 64 = e64 := by omega
      have he2 : (e64 : Int) ≤ P.length := by omega
      have he3 : (i : Int) ≤ e64 := by omega
      obtain ⟨d, hd⟩ : ∃ d, (P.drop i).take 64 = d := ⟨_, rfl⟩
      have hx : (sB P).extract i e64 = sB d := by rw [sB_extract, List.drop_take, ← hd, show e64 - i = 64 from by omega]
      have hd64 : d.length = 64 := by rw [← hd, List.length_take, List.length_drop]; omega
      have hq' : blocksH (comp st.toL (wordsL d)) (P.drop e64) (P.length / 64 - (j + 1)) = H := by
        rw [← hq, show P.length / 64 - j = (P.length / 64 - (j + 1)) + 1 from by omega, blocksH, hd, List.drop_drop, he]
      have hc8 := comp_length (m := wordsL d) (St.toL_length st)
      have hcst := stOf_toL hc8
      generalize hhc : stOf (comp st.toL (wordsL d)) = st2 at *
      rw [hcst] at hq'
      have hall : ∀ w', SinceP wr w' → (rowOf w' hb 0 8 = some (uC st.toL) ∧ canPut w' hb 0 8 = true) := fun w' h =>
        ⟨uC_row8 ((h.out.block hb hRl).trans hR), canPut_block ((h.out.block hb hRl).trans hR) 0 8 (by simp [uC_length, St.toL_length])⟩
      have hblk := fun w => refBlock_any st d w hd64
      rw [hcst] at hblk
      replace hblk := Box.mk hblk
      replace hq := Box.mk hq
      replace hq' := Box.mk hq'
      replace hR := Box.mk hR
      replace hO := Box.mk hO
      replace hbr := Box.mk hbr
      replace hd := Box.mk hd
      replace hd64 := Box.mk hd64
      replace hc8 := Box.mk hc8
      replace hcst := Box.mk hcst
      replace hhc := Box.mk hhc
      replace hij := Box.mk hij
      replace he := Box.mk he
      go_wp2_with fail
      refine zreg_begin (z := 7) (S := SinceP wr) (by kernel_rfl) (SinceP.refl _).drew (fun hHeld => ?_)
      simp only [List.length_cons, List.length_nil, Nat.zero_add, Nat.reduceAdd, Array.replicate]
      refine zreg_take (i := 0) rfl (by kernel_rfl) (by kernel_rfl) (by kernel_rfl) (by kernel_rfl) hreg_panic (by rfl) hHeld ?_
      apply Exists.intro
      refine ⟨fun w' hw' => ?_, ?_⟩
      · have hf := hall w' hw'
        go_simp
        try go_bits
        exact yieldsV_mk rfl
      simp only [Act.put, List.setIfInBounds_toArray, List.set_cons_zero, List.set_cons_succ]
      refine zreg_take (i := 1) rfl (by kernel_rfl) (by kernel_rfl) (by kernel_rfl) (by kernel_rfl) hreg_panic (by rfl) hHeld ?_
      apply Exists.intro
      refine ⟨fun w' hw' => ?_, ?_⟩
      · have hf := hall w' hw'
        go_simp
        try go_bits
        exact yieldsV_mk rfl
      simp only [Act.put, List.setIfInBounds_toArray, List.set_cons_zero, List.set_cons_succ]
      refine zreg_take (i := 2) rfl (by kernel_rfl) (by kernel_rfl) (by kernel_rfl) (by kernel_rfl) hreg_panic (by rfl) hHeld ?_
      apply Exists.intro
      refine ⟨fun w' hw' => ?_, ?_⟩
      · have hf := hall w' hw'
        go_simp
        try go_bits
        exact yieldsV_mk rfl
      simp only [Act.put, List.setIfInBounds_toArray, List.set_cons_zero, List.set_cons_succ]
      refine zreg_take (i := 3) rfl (by kernel_rfl) (by kernel_rfl) (by kernel_rfl) (by kernel_rfl) hreg_panic (by rfl) hHeld ?_
      apply Exists.intro
      refine ⟨fun w' hw' => ?_, ?_⟩
      · have hf := hall w' hw'
        go_simp
        try go_bits
        exact yieldsV_mk rfl
      simp only [Act.put, List.setIfInBounds_toArray, List.set_cons_zero, List.set_cons_succ]
      refine zreg_take (i := 4) rfl (by kernel_rfl) (by kernel_rfl) (by kernel_rfl) (by kernel_rfl) hreg_panic (by rfl) hHeld ?_
      apply Exists.intro
      refine ⟨fun w' hw' => ?_, ?_⟩
      · have hf := hall w' hw'
        go_simp
        try go_bits
        exact yieldsV_mk rfl
      simp only [Act.put, List.setIfInBounds_toArray, List.set_cons_zero, List.set_cons_succ]
      refine zreg_take (i := 5) rfl (by kernel_rfl) (by kernel_rfl) (by kernel_rfl) (by kernel_rfl) hreg_panic (by rfl) hHeld ?_
      apply Exists.intro
      refine ⟨fun w' hw' => ?_, ?_⟩
      · have hf := hall w' hw'
        go_simp
        try go_bits
        exact yieldsV_mk rfl
      simp only [Act.put, List.setIfInBounds_toArray, List.set_cons_zero, List.set_cons_succ]
      refine wpAnyZ_ready (rs := [6]) (by kernel_rfl) (by simp) ?_
      refine zreg_event (o := _) rfl (by rfl) (by decide) (fun K hK => ?_) ?_
      · go_simp
        first
          | (go_at_call 24; refine (hblk.out _).mono ?_; rintro e wn ⟨rfl, hbb⟩)
          | skip
        refine hK.out _ _ ?_ (fun hHeld' => ?_)
        · first
            | exact hHeld.next hbb
            | exact hHeld.next hb
            | exact hHeld
            | exact hHeld.alloc _
            | exact hHeld.setCell (by simp <;> omega) _
            | exact (hHeld.alloc _).alloc _
        replace hHeld := hHeld'
        clear hHeld' hK K
        simp only [Act.put, List.setIfInBounds_toArray, List.set_cons_zero, List.set_cons_succ]
        refine wpAnyZ_ready (rs := [7]) (by kernel_rfl) (by simp) ?_
        refine zreg_last (o := _) rfl (by rfl) (fun K hK => ?_) ?_
        · go_simp
          first
            | (have hF := hall _ hHeld; have hBn := hHeld.out; go_simp)
            | skip
          refine hK.out _ _ ?_
          clear hK K hHeld
          simp only [Act.put, List.setIfInBounds_toArray, List.set_cons_zero, List.set_cons_succ]
          refine wpAnyZ_done (by kernel_rfl) ?_ _
          refine NoPanic.normal ?_
          have hRn := (hBn.block hb hRl).trans hR.out
          have hRz := heap_setCells_whole hRn (cs := uC st2.toL) (by rw [uC_length, uC_length, St.toL_length, St.toL_length])
          have hOz : (wn.setCells hb 0 (uC st2.toL)).heap[ob]? = _ := ((below_setCells (Nat.le_refl hb) (uC st2.toL) 0 wn wn (Below.refl _ _)).block ob (by omega)).trans ((hBn.block ob (by omega)).trans hO.out)
          have hBz : Below ob W (wn.setCells hb 0 (uC st2.toL)) := below_setCells (by omega) _ _ _ _ (hbr.out.trans (hBn.mono (by omega)))
          generalize wn.setCells hb 0 (uC st2.toL) = wz at *
          replace hRz := Box.mk hRz
          replace hOz := Box.mk hOz
          replace hBz := Box.mk hBz
          clear hF hBn hall
          go_wp2
          go_roundw
          case rel => exact ⟨hBz.out, hOz.out, j + 1, e64, st2, by have := hij.out; have := he.out; omega, by omega, by go_num, hRz.out, hq'.out⟩
          case measure => have := he.out; simp [intOf]; omega
        exact AllReadyZ.nil
      exact AllReadyZ.nil
    · obtain rfl : i = P.length := by omega
      have hge : ¬ ((P.length : Nat) : Int) + 64 ≤ (P.length : Int) := by omega
      have hqq : st.toL = H := by
        rw [← hq, show P.length / 64 - j = 0 from by omega]; rfl
      clear hq
      have hst' : ∀ i, i < 8 → ∃ x, st.toL[i]? = some x := fun i h => ⟨_, List.getElem?_eq_getElem (by rw [St.toL_length]; exact h)⟩
      have eO : keyC zeroKey = bC (midK (digest H) 0) := by rw [keyC_bC]; rfl
      have eO' : keyC kH = bC (midK (digest H) 32) := by rw [hkv]; unfold midK; simp; rw [List.take_of_length_le (by rw [digest_length]; omega)]
      replace hij := Box.mk hij
      replace hkv := Box.mk hkv
      replace hqq := Box.mk hqq
      replace hR := Box.mk hR
      replace hO := Box.mk hO
      replace hbr := Box.mk hbr
      replace eO := Box.mk eO
      replace eO' := Box.mk eO'
      go_wp2_with fail
      have hN : (wr.alloc (.cells (keyC zeroKey).toArray 23)).heap[wr.heap.size]? = _ := heap_alloc_new wr _
      have hR5 : (wr.alloc (.cells (keyC zeroKey).toArray 23)).heap[hb]? = _ := (Below.heap_alloc _ _ _ hRl).trans hR.out
      have hO5 : (wr.alloc (.cells (keyC zeroKey).toArray 23)).heap[ob]? = _ := (Below.heap_alloc _ _ _ (by omega)).trans hO.out
      have hB5 : Below ob W (wr.alloc (.cells (keyC zeroKey).toArray 23)) := hbr.out.alloc (by omega) _
      obtain ⟨nb, hnb⟩ : ∃ b, wr.heap.size = b := ⟨_, rfl⟩
      rw [hnb] at hN
      rw [hnb]
      have hn1 : nb ≠ hb := by omega
      have hn2 : nb ≠ ob := by omega
      have hn3 : ob < nb := by omega
      replace hnb := Box.mk hnb
      generalize wr.alloc (.cells (keyC zeroKey).toArray 23) = wq at *
      rw [eO.out] at hN
      clear hR hO hbr hRl
      replace hN := Box.mk hN
      replace hR5 := Box.mk hR5
      replace hO5 := Box.mk hO5
      replace hB5 := Box.mk hB5
      go_wp2_with fail
      go_loopw [7] (fun x wr => Below ob W wr ∧ wr.heap[hb]? = some (.cells (uC st.toL).toArray 52 (0, 0)) ∧ wr.heap[ob]? = some (.cells (keyC zeroKey).toArray 23 (0, 0)) ∧ ∃ j : Nat, j ≤ 32 ∧ x = .int .i64 j ∧ wr.heap[nb]? = some (.cells (bC (midK (digest H) j)).toArray 23 (0, 0))) (fun i _ => 32 - (intOf i).toNat)
      case atStart => exact ⟨hB5.out, hR5.out, hO5.out, 0, by omega, rfl, hN.out⟩
      case round =>
        clear hB5 hR5 hO5 hN
        obtain ⟨hbx, hRx, hOx, j, hj, rfl, hNx⟩ := hrel
        have hd32 : 32 ≤ (digest H).length := by rw [digest_length]; omega
        by_cases hlt : j < 32
        · have hlt' : (j : Int) < 32 := by omega
          have hset := midK_set hd32 hlt
          have hdj := digest_get H hlt
          have hgj : (digest H)[j] = UInt8.ofNat ((H.getD (j / 4) 0).toNat / 2 ^ (8 * (3 - j % 4))) := (List.getElem?_eq_some_iff.1 hdj).2
          replace hset := (congrArg (fun y => (midK (digest H) j).set j y) hgj.symm).trans hset
          obtain ⟨y, hy⟩ : ∃ y, (midK (digest H) j)[j]? = some y := ⟨_, List.getElem?_eq_getElem (by rw [midK_length hd32 hj]; exact hlt)⟩
          have cN := bC_cell hNx hy
          have fN : wr.frozen? ⟨nb, j, none⟩ = false := frozen_of_row _ _ _ _ _ hNx
          obtain ⟨x, hx⟩ := hst' (j / 4) (by omega)
          have cR := uC_cell hRx hx
          rw [hqq.out] at hx
          rw [List.getD_eq_getElem?_getD, hx] at hset
          obtain ⟨d, hd⟩ : ∃ d, j / 4 = d := ⟨_, rfl⟩
          obtain ⟨r, hr⟩ : ∃ r, j % 4 = r := ⟨_, rfl⟩
          rw [hd] at cR
          rw [hr] at hset
          obtain ⟨n, hn⟩ : ∃ n, 8 * (3 - r) = n := ⟨_, rfl⟩
          have hd1 : (j : Int) / 4 = d := by omega
          have hr1 : (j : Int) % 4 = r := by omega
          have hr4 : (r : Int) ≤ 3 := by omega
          have hn1' : (24 : Int) - 8 * (r : Int) = n := by omega
          have hn24 : (n : Int) ≤ 24 := by omega
          have hd8 : (d : Int) < 8 := by omega
          have hsh := shr_u8 x r (by omega)
          rw [hn] at hsh hset
          obtain ⟨b, hbb⟩ : ∃ b, UInt8.ofNat (x.toNat / 2 ^ n) = b := ⟨_, rfl⟩
          rw [hbb] at hsh
          replace hset : (midK (digest H) j).set j b = midK (digest H) (j + 1) := by rw [← hbb]; exact hset
          have hst2 := heap_setCell_bC hNx j b
          rw [hset] at hst2
          clear hset hdj hgj hy hx hd hr hbb
          replace hn := Box.mk hn
          replace hNx := Box.mk hNx
          replace hOx := Box.mk hOx
          replace hRx := Box.mk hRx
          replace hbx := Box.mk hbx
          replace hst2 := Box.mk hst2
          go_wp2_with fail
          exact ⟨⟨Below.setCell (p := ⟨nb, j, none⟩) hbx.out (by show ob ≤ nb; omega) _, (Below.heap_setCell _ _ _ _ (Ne.symm hn1)).trans hRx.out, (Below.heap_setCell _ _ _ _ (Ne.symm hn2)).trans hOx.out, j + 1, by omega, by go_num, hst2.out⟩, by simp [intOf]; omega⟩
        · obtain rfl : j = 32 := by omega
          have hge : ¬ ((32 : Nat) : Int) < 32 := by omega
          rw [← eO'.out] at hNx
          have hro := key_rowOf hNx
          have hpu : canPut wr ob 0 32 = true := canPut_block hOx 0 32 (by simp [keyC_length])
          replace hNx := Box.mk hNx
          replace hOx := Box.mk hOx
          replace hRx := Box.mk hRx
          replace hbx := Box.mk hbx
          go_wp2_with fail
          have hrow := rowOf_of_rangeAt (World.rangeAt_setCells_same wr ob 0 (keyC kH) (by rw [keyC_length]; exact canPut_there.1 hpu)) (keyC_length kH)
          refine bodyPost_ret (v := .agg (keyC kH).toArray) (res1 Try.results21 (res_key (b := ob) (o := 0) (by simp [go_sem]) hrow)) rfl ?_
          rw [← hob.out] at hbx ⊢
          exact gives rfl (below_setCells (Nat.le_refl _) _ _ _ _ hbx.out)

set_option maxHeartbeats 1000000 in
theorem refDouble_any (s : List UInt8) (W : World) (hs : s.length ≤ 1000000) : Calls Try.prog 16 #[.string (sB s)] W (Gives (.agg (keyC (doubleK s)).toArray) W) := by
  go_enter Try.func16, Try.ntmps16
  go_wp2_with fail
  have hO0 := heap_alloc_new W (.cells (keyC zeroKey).toArray 23)
  have hB0 : Below W.heap.size W (W.alloc (.cells (keyC zeroKey).toArray 23)) := (Below.refl _ _).alloc (Nat.le_refl _) _
  generalize W.alloc (.cells (keyC zeroKey).toArray 23) = w0 at *
  refine (refSum_any s _ hs).mono ?_
  rintro e w1 ⟨rfl, hb1⟩
  have hl0 : W.heap.size < w0.heap.size := (Array.getElem?_eq_some_iff.1 hO0).1
  have hB1 : Below W.heap.size W w1 := hB0.trans (hb1.mono (by omega))
  have hO1 := keepBlock hb1 hO0
  have hl1 : W.heap.size < w1.heap.size := (Array.getElem?_eq_some_iff.1 hO1).1
  have hdK : doubleK s = sumK (sumK s).val := rfl
  rw [hdK]
  replace hdK := Box.mk hdK
  generalize sumK s = k at *
  clear hO0 hB0 hb1
  replace hO1 := Box.mk hO1
  replace hB1 := Box.mk hB1
  go_wp2_with fail
  refine (ref1Bytes_any k w1).mono ?_
  rintro e w2 ⟨rfl, hb2⟩
  have hB2 : Below W.heap.size W w2 := hB1.out.trans (hb2.mono (by omega))
  have hO2 := keepBlock hb2 hO1.out
  have hl2 : W.heap.size < w2.heap.size := (Array.getElem?_eq_some_iff.1 hO2).1
  clear hO1 hB1 hb2
  replace hO2 := Box.mk hO2
  replace hB2 := Box.mk hB2
  go_wp2_with fail
  refine (refSum_any k.val _ (by rw [k.2]; omega)).mono ?_
  rintro e w3 ⟨rfl, hb3⟩
  have hB3 : Below W.heap.size W w3 := hB2.out.trans (hb3.mono (by omega))
  have hO3 := keepBlock hb3 hO2.out
  have hpu : canPut w3 W.heap.size 0 32 = true := canPut_block hO3 0 32 (by simp [keyC_length])
  generalize sumK k.val = kk at *
  clear hB2 hO2 hl2 hb3
  replace hO3 := Box.mk hO3
  replace hB3 := Box.mk hB3
  go_wp2_with fail
  have hrow := rowOf_of_rangeAt (World.rangeAt_setCells_same w3 W.heap.size 0 (keyC kk) (by rw [keyC_length]; exact canPut_there.1 hpu)) (keyC_length kk)
  refine bodyPost_ret (v := .agg (keyC kk).toArray) (res1 Try.results16 (res_key (b := W.heap.size) (o := 0) (by simp [go_sem]) hrow)) rfl ?_
  exact gives (by rw [hdK.out]) (below_setCells (Nat.le_refl _) _ _ _ _ hB3.out)

set_option maxHeartbeats 1000000 in
theorem refPair_any (a b : Key) (W : World) : Calls Try.prog 12 #[.agg (keyC a).toArray, .agg (keyC b).toArray] W (Gives (.agg (keyC (pairK a b)).toArray) W) := by
  go_enter Try.func12, Try.ntmps12
  go_wp2_with fail
  have hA : (((W.alloc (.cells (keyC a).toArray 23)).alloc (.cells (keyC b).toArray 23)).alloc (.cells (keyC zeroKey).toArray 23)).heap[W.heap.size]? = _ := (Below.heap_alloc _ _ _ (by simp; omega)).trans ((Below.heap_alloc _ _ _ (by simp)).trans (heap_alloc_new W _))
  have hB : (((W.alloc (.cells (keyC a).toArray 23)).alloc (.cells (keyC b).toArray 23)).alloc (.cells (keyC zeroKey).toArray 23)).heap[W.heap.size + 1]? = _ := (Below.heap_alloc _ _ _ (by simp)).trans (heap_alloc_new' _ _ _ (by simp))
  have hO : (((W.alloc (.cells (keyC a).toArray 23)).alloc (.cells (keyC b).toArray 23)).alloc (.cells (keyC zeroKey).toArray 23)).heap[W.heap.size + 1 + 1]? = some (.cells (keyC zeroKey).toArray 23 (0, 0)) := heap_alloc_new' _ _ _ (by simp)
  have hbw : Below W.heap.size W (((W.alloc (.cells (keyC a).toArray 23)).alloc (.cells (keyC b).toArray 23)).alloc (.cells (keyC zeroKey).toArray 23)) := (((Below.refl _ _).alloc (Nat.le_refl _) _).alloc (by simp) _).alloc (by simp; omega) _
  generalize ((W.alloc (.cells (keyC a).toArray 23)).alloc (.cells (keyC b).toArray 23)).alloc (.cells (keyC zeroKey).toArray 23) = w8 at *
  obtain ⟨b0, h0⟩ : ∃ b, W.heap.size = b := ⟨_, rfl⟩
  rw [h0] at hA hB hO hbw
  rw [h0]
  have hl8 : b0 + 1 + 1 < w8.heap.size := (Array.getElem?_eq_some_iff.1 hO).1
  have hx : sB a.val ++ sB b.val = sB (a.val ++ b.val) := sB_append _ _
  have hP : pairK a b = doubleK (a.val ++ b.val) := rfl
  rw [hP]
  have hla : a.val.length = 32 := a.2
  have hlb : b.val.length = 32 := b.2
  have hall : ∀ w', SinceP w8 w' → (rowOf w' b0 0 32 = some (keyC a) ∧ rowOf w' (b0 + 1) 0 32 = some (keyC b) ∧ canPut w' (b0 + 1 + 1) 0 32 = true) := fun w' h =>
    ⟨key_rowOf ((h.out.block _ (by omega)).trans hA), key_rowOf ((h.out.block _ (by omega)).trans hB), canPut_block ((h.out.block _ hl8).trans hO) 0 32 (by simp [keyC_length])⟩
  replace h0 := Box.mk h0
  replace hP := Box.mk hP
  replace hA := Box.mk hA
  replace hB := Box.mk hB
  replace hO := Box.mk hO
  replace hbw := Box.mk hbw
  refine zreg_begin (z := 6) (S := SinceP w8) (by kernel_rfl) (SinceP.refl _).drew (fun hHeld => ?_)
  simp only [List.length_cons, List.length_nil, Nat.zero_add, Nat.reduceAdd, Array.replicate]
  refine zreg_take (i := 0) rfl (by kernel_rfl) (by kernel_rfl) (by kernel_rfl) (by kernel_rfl) hreg_panic (by rfl) hHeld ?_
  apply Exists.intro
  refine ⟨fun w' hw' => ?_, ?_⟩
  · have hf := hall w' hw'
    go_simp
    try go_bits
    exact yieldsV_mk rfl
  simp only [Act.put, List.setIfInBounds_toArray, List.set_cons_zero, List.set_cons_succ]
  refine zreg_take (i := 2) rfl (by kernel_rfl) (by kernel_rfl) (by kernel_rfl) (by kernel_rfl) hreg_panic (by rfl) hHeld ?_
  apply Exists.intro
  refine ⟨fun w' hw' => ?_, ?_⟩
  · have hf := hall w' hw'
    go_simp
    try go_bits
    exact yieldsV_mk rfl
  simp only [Act.put, List.setIfInBounds_toArray, List.set_cons_zero, List.set_cons_succ]
  refine wpAnyZ_ready (rs := [1]) (by kernel_rfl) (by simp) ?_
  refine zreg_event (o := _) rfl (by rfl) (by decide) (fun K hK => ?_) ?_
  · go_simp
    first
      | (go_at_call 17; refine (ref1Bytes_any a _).mono ?_; rintro e wn ⟨rfl, hbb⟩)
      | skip
    refine hK.out _ _ ?_ (fun hHeld' => ?_)
    · first
        | exact hHeld.next hbb
        | exact hHeld.next hb
        | exact hHeld
        | exact hHeld.alloc _
        | exact hHeld.setCell (by simp <;> omega) _
        | exact (hHeld.alloc _).alloc _
    replace hHeld := hHeld'
    clear hHeld' hK K
    simp only [Act.put, List.setIfInBounds_toArray, List.set_cons_zero, List.set_cons_succ]
    refine wpAnyZ_ready (rs := [3]) (by kernel_rfl) (by simp) ?_
    refine zreg_event (o := _) rfl (by rfl) (by decide) (fun K hK => ?_) ?_
    · go_simp
      first
        | (go_at_call 17; refine (ref1Bytes_any b _).mono ?_; rintro e wn ⟨rfl, hbb⟩)
        | skip
      refine hK.out _ _ ?_ (fun hHeld' => ?_)
      · first
          | exact hHeld.next hbb
          | exact hHeld.next hb
          | exact hHeld
          | exact hHeld.alloc _
          | exact hHeld.setCell (by simp <;> omega) _
          | exact (hHeld.alloc _).alloc _
      replace hHeld := hHeld'
      clear hHeld' hK K
      simp only [Act.put, List.setIfInBounds_toArray, List.set_cons_zero, List.set_cons_succ]
      refine zreg_take (i := 4) rfl (by kernel_rfl) (by kernel_rfl) (by kernel_rfl) (by kernel_rfl) hreg_panic (by rfl) hHeld ?_
      apply Exists.intro
      refine ⟨fun w' hw' => ?_, ?_⟩
      · have hf := hall w' hw'
        go_simp
        try go_bits
        exact yieldsV_mk rfl
      simp only [Act.put, List.setIfInBounds_toArray, List.set_cons_zero, List.set_cons_succ]
      refine wpAnyZ_ready (rs := [5]) (by kernel_rfl) (by simp) ?_
      refine zreg_event (o := _) rfl (by rfl) (by decide) (fun K hK => ?_) ?_
      · go_simp
        first
          | (go_at_call 16; refine (refDouble_any (a.val ++ b.val) _ (by rw [List.length_append, a.2, b.2]; omega)).mono ?_; rintro e wn ⟨rfl, hbb⟩)
          | skip
        refine hK.out _ _ ?_ (fun hHeld' => ?_)
        · first
            | exact hHeld.next hbb
            | exact hHeld.next hb
            | exact hHeld
            | exact hHeld.alloc _
            | exact hHeld.setCell (by simp <;> omega) _
            | exact (hHeld.alloc _).alloc _
        replace hHeld := hHeld'
        clear hHeld' hK K
        simp only [Act.put, List.setIfInBounds_toArray, List.set_cons_zero, List.set_cons_succ]
        refine wpAnyZ_ready (rs := [6]) (by kernel_rfl) (by simp) ?_
        refine zreg_last (o := _) rfl (by rfl) (fun K hK => ?_) ?_
        · go_simp
          first
            | (have hF := hall _ hHeld; have hBn := hHeld.out; go_simp)
            | skip
          refine hK.out _ _ ?_
          clear hK K hHeld
          simp only [Act.put, List.setIfInBounds_toArray, List.set_cons_zero, List.set_cons_succ]
          refine wpAnyZ_done (by kernel_rfl) ?_ _
          refine NoPanic.normal ?_
          have hrow := rowOf_of_rangeAt (World.rangeAt_setCells_same wn (b0 + 1 + 1) 0 (keyC (doubleK (a.val ++ b.val))) (by rw [keyC_length]; exact canPut_there.1 hF.2.2)) (keyC_length _)
          have hfin : Below W.heap.size W (wn.setCells (b0 + 1 + 1) 0 (keyC (doubleK (a.val ++ b.val)))) := by rw [h0.out]; exact below_setCells (by omega) _ _ _ _ (hbw.out.trans (hBn.mono (by omega)))
          generalize wn.setCells (b0 + 1 + 1) 0 (keyC (doubleK (a.val ++ b.val))) = wz at *
          replace hfin := Box.mk hfin
          clear hF hBn
          go_wp2
          refine bodyPost_ret (v := .agg (keyC (doubleK (a.val ++ b.val))).toArray) (res1 Try.results12 (res_key (b := b0 + 1 + 1) (o := 0) (by simp [go_sem]) hrow)) rfl ?_
          exact gives rfl hfin.out
        exact AllReadyZ.nil
      exact AllReadyZ.nil
    exact AllReadyZ.nil
  exact AllReadyZ.nil

end Go.Proofs.Ytabikhmaiennpaa
