/- Layer 6: the document's Encode. -/
import Derived.Test.YtahkiabpjfcfdaaBlkSizes
import Derived.Test.YtahkiabpjfcfdaaRef5
namespace Go.Proofs.Ytahkiabpjfcfdaa
open Go.RowKit
set_option linter.unusedVariables false
set_option linter.unusedSimpArgs false
set_option maxRecDepth 100000

theorem encTxs_at {l : List TxD} {j : Nat} {t : TxD} {acc bs : List UInt8} (h : encTxs (l.take j) = .ok acc) (ht : l[j]? = some t) (he : encV t = (bs, 0)) : encTxs (l.take (j + 1)) = .ok (acc ++ bs) := by
  rw [List.take_add_one, ht]
  have := encTxs_snoc (l.take j) t acc h
  rw [he, if_pos rfl] at this
  exact this
theorem encTxs_bad {l : List TxD} {j : Nat} {t : TxD} {acc bs : List UInt8} {x : Int} (h : encTxs (l.take j) = .ok acc) (ht : l[j]? = some t) (he : encV t = (bs, x)) (hx : x ≠ 0) : encTxs l = .error x := by
  have h1 := encTxs_snoc (l.take j) t acc h
  rw [he, if_neg hx] at h1
  have h2 : l.take j ++ [t] = l.take (j + 1) := by rw [List.take_add_one, ht]; rfl
  rw [h2] at h1
  have := encTxs_error (l.take (j + 1)) (l.drop (j + 1)) x h1
  rw [List.take_append_drop] at this
  exact this
/-- A transaction's bytes are few. -/
theorem encV_few (d : TxD) : (encV d).1.length ≤ 8000 := by
  rcases encV_cases d with ⟨_, h⟩ | ⟨_, _, _, h⟩ | ⟨hm, _, h⟩
  · rw [h]; simp
  · rw [h]; simp
  · rw [h]
    have := encB_length hm
    obtain ⟨h1, h2, h3, h4⟩ := manyB_false hm
    show (encB d).length ≤ _
    split at this <;> omega
theorem sizesN_few : ∀ l : List TxD, sizesN l ≤ 8000 * l.length
  | [] => by simp [sizesN]
  | t :: l => by
    have := sizesN_few l
    have h2 := encV_few t
    unfold sizesN at this ⊢
    rw [List.map_cons, List.sum_cons, List.length_cons]; omega

attribute [local irreducible] Int.lt Int.le
attribute [local go_sem] sB_append le_length putL_4 putL_8
attribute [local go_sem ↓] load_key store_key alloc_key build0_key eq_key load_tx store_tx alloc_tx load_blk store_blk alloc_blk build0_blk
attribute [local go_sem] rowOf_drew rowOf_alloc_old rowOf_alloc_new canPut_drew canPut_alloc_old canPut_alloc_new setCells_alloc_new
set_option maxHeartbeats 4000000 in
theorem renc6_any (v : BlkV) (qs : List (TxV × TxD)) (d : BlkD) (W : World) (h : BlkL W v qs d) : Calls Try.prog 35 #[.agg (blkC v).toArray] W (Gives (valE (blkV d)) W) := by
  have hB0 : Below W.heap.size W (W.alloc (.cells (blkC v).toArray 50)) := (Below.refl _ _).alloc (Nat.le_refl _) _
  have hH0 := heap_alloc_new W (.cells (blkC v).toArray 50)
  have hvl := h.vlen
  have hqd : qs.length = d.txs.length := by have := congrArg List.length h.cont; rw [List.length_map] at this; exact this.symm
  have hcap := h.txs.2.1
  have hmax : (v.txs.len : Int) ≤ 9223372036854775807 := by have := Nat.le_trans h.txs.2.1 h.txs.2.2.1; unfold maxLen at this; omega
  have hpv := h.prev
  have hrt := h.root
  obtain ⟨hn1, hn2, hn3⟩ := h.nonce
  obtain ⟨k0, k1, k2, k3, k4, k5⟩ := blk_all hH0
  rw [hvl] at k5 hmax hcap
  replace h := Box.mk h
  by_cases h0 : d.txs.length = 0
  · rw [blkV_zero h0]
    rw [h0] at k5
    replace hH0 := Box.mk hH0
    go_enter Try.func35, Try.ntmps35
    go_wp2_with fail
    go_ret2
    exact gives rfl hB0
  have h0' : ((d.txs.length : Int) == 0) = false := by simpa using h0
  by_cases h1 : 30 < d.txs.length
  · rw [blkV_many h0 h1]
    have h1' : (30 : Int) < d.txs.length := by omega
    replace hH0 := Box.mk hH0
    replace h0 := Box.mk h0
    go_enter Try.func35, Try.ntmps35
    go_wp2_with fail
    go_ret2
    exact gives rfl hB0
  have h1' : ¬ (30 : Int) < d.txs.length := by omega
  have hHd : blkHead d = v.prev.val ++ v.root.val ++ le 4 v.nonce.toNat ++ compactL d.txs.length := by unfold blkHead; rw [hpv, hrt, hn1]
  have hhl := blkHead_length d (by omega)
  have hc1 : (compactL d.txs.length).length = 1 := by unfold compactL; rw [if_pos (by omega), le_length]
  obtain ⟨nn, hnn⟩ : ∃ n : Nat, v.nonce = n := ⟨v.nonce.toNat, by omega⟩
  rw [hnn] at k4
  rw [hnn, Int.toNat_natCast] at hHd
  have hnn2 : (nn : Int) < 4294967296 := by omega
  have y1 : v.prev.val.length = 32 := v.prev.property
  have y2 : v.root.val.length = 32 := v.root.property
  replace hpv := Box.mk hpv
  replace hrt := Box.mk hrt
  replace hn1 := Box.mk hn1
  replace hn2 := Box.mk hn2
  replace hn3 := Box.mk hn3
  replace hnn := Box.mk hnn
  replace hHd := Box.mk hHd
  replace hhl := Box.mk hhl
  replace h0 := Box.mk h0
  replace h1 := Box.mk h1
  have L := Box.mk (h.out.below hB0)
  clear k0 k1 k2 k3
  have hH := Box.mk hH0
  replace hH0 := Box.mk hH0
  go_enter Try.func35, Try.ntmps35
  go_wp2_with fail
  clear k4 k5
  generalize W.alloc (.cells (blkC v).toArray 50) = w0 at *
  obtain ⟨tb, htb⟩ : ∃ b, W.heap.size = b := ⟨_, rfl⟩
  rw [htb] at hH
  rw [htb]
  replace hB0 := Box.mk hB0
  replace htb := Box.mk htb
  obtain ⟨k0, k1, k2, k3, k4, k5⟩ := blk_all hH.out
  rw [hvl] at k5
  rw [hnn.out] at k4
  have hall : ∀ w', SinceP w0 w' → (tb < w'.heap.size ∧ rowOf w' tb 0 32 = some (keyC v.prev) ∧ rowOf w' tb 32 32 = some (keyC v.root) ∧ w'.cell? ⟨tb, 64, none⟩ = some (.int .u32 nn) ∧ w'.cell? ⟨tb, 65, none⟩ = some (.slice v.txs.a d.txs.length v.txs.cap)) := fun w' h =>
    ⟨Nat.lt_of_lt_of_le k0 h.out.size, (rowOf_congr (h.out.block tb k0) _ _).trans k2, (rowOf_congr (h.out.block tb k0) _ _).trans k3, (h.out.cell (p := ⟨tb, 64, none⟩) k0).trans k4, (h.out.cell (p := ⟨tb, 65, none⟩) k0).trans k5⟩
  clear k1
  refine hreg_begin (S := SinceP w0) (by kernel_rfl) (SinceP.refl _).drew (fun hHeld => ?_)
  simp only [List.length_cons, List.length_nil, Nat.zero_add, Nat.reduceAdd, Array.replicate]
  refine hreg_take (i := 0) rfl (by kernel_rfl) (by kernel_rfl) (by kernel_rfl) hreg_panic (by rfl) hHeld ?_
  apply Exists.intro
  refine ⟨fun w' hw' => ?_, ?_⟩
  · have hf := hall w' hw'
    go_simp
    try go_bits
    exact yieldsV_mk rfl
  simp only [Act.put, List.setIfInBounds_toArray, List.set_cons_zero, List.set_cons_succ]
  refine hreg_take (i := 1) rfl (by kernel_rfl) (by kernel_rfl) (by kernel_rfl) hreg_panic (by rfl) hHeld ?_
  apply Exists.intro
  refine ⟨fun w' hw' => ?_, ?_⟩
  · have hf := hall w' hw'
    go_simp
    try go_bits
    exact yieldsV_mk rfl
  simp only [Act.put, List.setIfInBounds_toArray, List.set_cons_zero, List.set_cons_succ]
  refine hreg_take (i := 3) rfl (by kernel_rfl) (by kernel_rfl) (by kernel_rfl) hreg_panic (by rfl) hHeld ?_
  apply Exists.intro
  refine ⟨fun w' hw' => ?_, ?_⟩
  · have hf := hall w' hw'
    go_simp
    try go_bits
    exact yieldsV_mk rfl
  simp only [Act.put, List.setIfInBounds_toArray, List.set_cons_zero, List.set_cons_succ]
  refine hreg_take (i := 4) rfl (by kernel_rfl) (by kernel_rfl) (by kernel_rfl) hreg_panic (by rfl) hHeld ?_
  apply Exists.intro
  refine ⟨fun w' hw' => ?_, ?_⟩
  · have hf := hall w' hw'
    go_simp
    try go_bits
    exact yieldsV_mk rfl
  simp only [Act.put, List.setIfInBounds_toArray, List.set_cons_zero, List.set_cons_succ]
  refine hreg_take (i := 7) rfl (by kernel_rfl) (by kernel_rfl) (by kernel_rfl) hreg_panic (by rfl) hHeld ?_
  apply Exists.intro
  refine ⟨fun w' hw' => ?_, ?_⟩
  · have hf := hall w' hw'
    go_simp
    try go_bits
    exact yieldsV_mk rfl
  simp only [Act.put, List.setIfInBounds_toArray, List.set_cons_zero, List.set_cons_succ]
  refine hreg_take (i := 8) rfl (by kernel_rfl) (by kernel_rfl) (by kernel_rfl) hreg_panic (by rfl) hHeld ?_
  apply Exists.intro
  refine ⟨fun w' hw' => ?_, ?_⟩
  · have hf := hall w' hw'
    go_simp
    try go_bits
    exact yieldsV_mk rfl
  simp only [Act.put, List.setIfInBounds_toArray, List.set_cons_zero, List.set_cons_succ]
  refine hreg_take (i := 9) rfl (by kernel_rfl) (by kernel_rfl) (by kernel_rfl) hreg_panic (by rfl) hHeld ?_
  apply Exists.intro
  refine ⟨fun w' hw' => ?_, ?_⟩
  · have hf := hall w' hw'
    go_simp
    try go_bits
    exact yieldsV_mk rfl
  simp only [Act.put, List.setIfInBounds_toArray, List.set_cons_zero, List.set_cons_succ]
  refine hreg_take (i := 12) rfl (by kernel_rfl) (by kernel_rfl) (by kernel_rfl) hreg_panic (by rfl) hHeld ?_
  apply Exists.intro
  refine ⟨fun w' hw' => ?_, ?_⟩
  · have hf := hall w' hw'
    go_simp
    try go_bits
    exact yieldsV_mk rfl
  simp only [Act.put, List.setIfInBounds_toArray, List.set_cons_zero, List.set_cons_succ]
  refine hreg_take (i := 13) rfl (by kernel_rfl) (by kernel_rfl) (by kernel_rfl) hreg_panic (by rfl) hHeld ?_
  apply Exists.intro
  refine ⟨fun w' hw' => ?_, ?_⟩
  · have hf := hall w' hw'
    go_simp
    try go_bits
    exact yieldsV_mk rfl
  simp only [Act.put, List.setIfInBounds_toArray, List.set_cons_zero, List.set_cons_succ]
  refine hreg_take (i := 14) rfl (by kernel_rfl) (by kernel_rfl) (by kernel_rfl) hreg_panic (by rfl) hHeld ?_
  apply Exists.intro
  refine ⟨fun w' hw' => ?_, ?_⟩
  · have hf := hall w' hw'
    go_simp
    try go_bits
    exact yieldsV_mk rfl
  simp only [Act.put, List.setIfInBounds_toArray, List.set_cons_zero, List.set_cons_succ]
  refine hreg_take (i := 15) rfl (by kernel_rfl) (by kernel_rfl) (by kernel_rfl) hreg_panic (by rfl) hHeld ?_
  apply Exists.intro
  refine ⟨fun w' hw' => ?_, ?_⟩
  · have hf := hall w' hw'
    go_simp
    try go_bits
    exact yieldsV_mk rfl
  simp only [Act.put, List.setIfInBounds_toArray, List.set_cons_zero, List.set_cons_succ]
  refine wpAnyH_ready (rs := [2]) (by kernel_rfl) (by simp) ?_
  refine hreg_event (o := _) rfl (by rfl) (fun K hK => ?_) ?_
  · go_simp
    first
      | (go_at_call 66; refine (refBytes_any v.prev _).mono ?_; rintro e wn ⟨rfl, hb⟩)
      | skip
    refine hK.out _ _ ?_ (fun hHeld' => ?_)
    · first
        | exact hHeld.next hb
        | exact hHeld
        | exact hHeld.alloc _
        | exact hHeld.setCell (by simp <;> omega) _
        | exact (hHeld.alloc _).alloc _
    replace hHeld := hHeld'
    clear hHeld' hK K
    simp only [Act.put, List.setIfInBounds_toArray, List.set_cons_zero, List.set_cons_succ]
    refine wpAnyH_ready (rs := [5]) (by kernel_rfl) (by simp) ?_
    refine hreg_event (o := _) rfl (by rfl) (fun K hK => ?_) ?_
    · go_simp
      first
        | (go_at_call 66; refine (refBytes_any v.root _).mono ?_; rintro e wq ⟨rfl, hb⟩)
        | skip
      refine hK.out _ _ ?_ (fun hHeld' => ?_)
      · first
          | exact hHeld.next hb
          | exact hHeld
          | exact hHeld.alloc _
          | exact hHeld.setCell (by simp <;> omega) _
          | exact (hHeld.alloc _).alloc _
      replace hHeld := hHeld'
      clear hHeld' hK K
      simp only [Act.put, List.setIfInBounds_toArray, List.set_cons_zero, List.set_cons_succ]
      refine hreg_take (i := 6) rfl (by kernel_rfl) (by kernel_rfl) (by kernel_rfl) hreg_panic (by rfl) hHeld ?_
      apply Exists.intro
      refine ⟨fun w' hw' => ?_, ?_⟩
      · have hf := hall w' hw'
        go_simp
        try go_bits
        exact yieldsV_mk rfl
      simp only [Act.put, List.setIfInBounds_toArray, List.set_cons_zero, List.set_cons_succ]
      refine wpAnyH_ready (rs := [10]) (by kernel_rfl) (by simp) ?_
      refine hreg_event (o := _) rfl (by rfl) (fun K hK => ?_) ?_
      · go_simp
        first
          | (go_at_call 67; refine (refPut_any nn 4 _ (by omega)).mono ?_; rintro e wm ⟨rfl, hb⟩)
          | skip
        refine hK.out _ _ ?_ (fun hHeld' => ?_)
        · first
            | exact hHeld.next hb
            | exact hHeld
            | exact hHeld.alloc _
            | exact hHeld.setCell (by simp <;> omega) _
            | exact (hHeld.alloc _).alloc _
        replace hHeld := hHeld'
        clear hHeld' hK K
        simp only [Act.put, List.setIfInBounds_toArray, List.set_cons_zero, List.set_cons_succ]
        refine hreg_take (i := 11) rfl (by kernel_rfl) (by kernel_rfl) (by kernel_rfl) hreg_panic (by rfl) hHeld ?_
        apply Exists.intro
        refine ⟨fun w' hw' => ?_, ?_⟩
        · have hf := hall w' hw'
          go_simp
          try go_bits
          exact yieldsV_mk rfl
        simp only [Act.put, List.setIfInBounds_toArray, List.set_cons_zero, List.set_cons_succ]
        refine wpAnyH_ready (rs := [16]) (by kernel_rfl) (by simp) ?_
        refine hreg_event (o := _) rfl (by rfl) (fun K hK => ?_) ?_
        · go_simp
          first
            | (go_at_call 68; refine (refCompact_any d.txs.length _ (by omega)).mono ?_; rintro e wp ⟨rfl, hb⟩)
            | skip
          refine hK.out _ _ ?_ (fun hHeld' => ?_)
          · first
              | exact hHeld.next hb
              | exact hHeld
              | exact hHeld.alloc _
              | exact hHeld.setCell (by simp <;> omega) _
              | exact (hHeld.alloc _).alloc _
          replace hHeld := hHeld'
          clear hHeld' hK K
          simp only [Act.put, List.setIfInBounds_toArray, List.set_cons_zero, List.set_cons_succ]
          refine hreg_take (i := 17) rfl (by kernel_rfl) (by kernel_rfl) (by kernel_rfl) hreg_panic (by rfl) hHeld ?_
          apply Exists.intro
          refine ⟨fun w' hw' => ?_, ?_⟩
          · have hf := hall w' hw'
            go_simp
            try go_bits
            exact yieldsV_mk rfl
          simp only [Act.put, List.setIfInBounds_toArray, List.set_cons_zero, List.set_cons_succ]
          refine hreg_take (i := 18) rfl (by kernel_rfl) (by kernel_rfl) (by kernel_rfl) hreg_panic (by rfl) hHeld ?_
          apply Exists.intro
          refine ⟨fun w' hw' => ?_, ?_⟩
          · have hf := hall w' hw'
            go_simp
            try go_bits
            exact yieldsV_mk rfl
          simp only [Act.put, List.setIfInBounds_toArray, List.set_cons_zero, List.set_cons_succ]
          refine wpAnyH_done (by kernel_rfl) ?_ _
          refine NoPanic.normal ?_
          clear hall k2 k3 k4 k5 hb
          have hS : Since w0 wp := hHeld.out
          clear hHeld
          have hHl : v.prev.val ++ (v.root.val ++ (le 4 nn ++ compactL d.txs.length)) = blkHead d := by rw [hHd.out]; simp only [List.append_assoc]
          rw [hHl]
          obtain ⟨hd, hhd⟩ : ∃ l, blkHead d = l := ⟨_, rfl⟩
          rw [hhd] at hhl ⊢
          replace hhl := hhl.out
          clear hHl hHd
          replace hS := Box.mk hS
          replace hhd := Box.mk hhd
          replace hhl := Box.mk hhl
          go_wp2_with fail
          go_loopw [4, 5] (fun sv x wr => Since w0 wr ∧ ∃ (j : Nat) (acc : List UInt8), j ≤ d.txs.length ∧ x = .int .i64 j ∧ sv = .string (sB (hd ++ acc)) ∧ encTxs (d.txs.take j) = .ok acc) (fun _ x _ => d.txs.length - (intOf x).toNat)
          case atStart => exact ⟨hS.out, 0, [], Nat.zero_le _, rfl, by simp, rfl⟩
          case round =>
            clear hS
            obtain ⟨hS, j, acc, hj, rfl, rfl, hacc⟩ := hrel
            replace hS : Below w0.heap.size w0 wr := hS
            have hHr := keepBlock hS hH.out
            have hlr := hS.size
            obtain ⟨k0, k1, k2, k3, k4, k5⟩ := blk_all hHr
            rw [hvl] at k5
            clear k1 k2 k3 k4
            have hal := encTxs_length _ _ hacc
            have hal2 := sizesN_few (d.txs.take j)
            rw [List.length_take] at hal2
            have hal3 : acc.length ≤ 320000 := by omega
            clear hal hal2
            by_cases hlt : j < d.txs.length
            · have hlt' : (j : Int) < (d.txs.length : Int) := by omega
              obtain ⟨q, hq⟩ : ∃ q, qs[j]? = some q := ⟨_, List.getElem?_eq_getElem (by omega)⟩
              have hdq : d.txs[j]? = some q.2 := by rw [L.out.cont, List.getElem?_map, hq]; rfl
              have hT := ((L.out.each q (List.mem_of_getElem? hq))).below hS
              obtain ⟨b, o, hae, hb, hr⟩ := SL.elem (fun q => txC_length q.1) L.out.txs hq
              have R1 : rowOf wr b (o + j * 38) 38 = some (txC q.1) := by rw [rowOf_congr (hS.block b hb)]; exact hr
              have s1 : b < wr.heap.size := by omega
              have hcall := refEncode_any q.1 q.2 wr hT
              have hfew := encV_few q.2
              obtain ⟨bs, x, hbx⟩ : ∃ bs x, encV q.2 = (bs, x) := ⟨_, _, rfl⟩
              rw [hbx] at hcall hfew
              replace hfew : bs.length ≤ 8000 := hfew
              unfold valE at hcall
              rw [hae] at k5
              replace hT := Box.mk hT
              replace hq := Box.mk hq
              replace hdq := Box.mk hdq
              replace hr := Box.mk hr
              replace hHr := Box.mk hHr
              replace hae := Box.mk hae
              replace hcall := Box.mk hcall
              replace hacc := Box.mk hacc
              replace hbx := Box.mk hbx
              replace hS := Box.mk hS
              by_cases hx : x = 0
              · subst hx
                have hnext := Box.mk (encTxs_at hacc.out hdq.out hbx.out)
                have g1 : ¬ (9223372036854775807 < hd.length + acc.length + bs.length) := by have := hhl.out; omega
                have g2 : ¬ (9223372036854775807 < hd.length + (acc.length + bs.length)) := by have := hhl.out; omega
                go_wp2_with fail
                refine hcall.out.mono ?_
                rintro e w5 ⟨rfl, hb5⟩
                have hS5 := Box.mk (since_next hS.out hb5)
                clear R1 s1 k0 k5
                go_wp2
                go_roundw
                case rel => exact ⟨hS5.out, j + 1, acc ++ bs, by omega, by go_num, by try simp [List.append_assoc], hnext.out⟩
                case measure => simp [intOf]; omega
              · have hbad := Box.mk (encTxs_bad hacc.out hdq.out hbx.out hx)
                have hx2 : (x != 0) = true := by simpa using hx
                go_wp2_with fail
                refine hcall.out.mono ?_
                rintro e w5 ⟨rfl, hb5⟩
                have hS5 := Box.mk (since_next hS.out hb5)
                clear R1 s1 k0 k5
                go_wp2_with fail
                go_ret2
                exact gives (by rw [blkV_err h0.out h1.out hbad.out]; rfl) (hB0.out.trans (hS5.out.mono hB0.out.size))
            · obtain rfl : j = d.txs.length := by omega
              rw [List.take_length] at hacc
              replace hacc := Box.mk hacc
              go_wp2_with fail
              go_ret2
              exact gives (by rw [blkV_ok h0.out h1.out hacc.out, hhd.out]; rfl) (hB0.out.trans (hS.mono hB0.out.size))
        exact AllReadyH.nil
      exact AllReadyH.nil
    exact AllReadyH.nil
  exact AllReadyH.nil
end Go.Proofs.Ytahkiabpjfcfdaa
