/- Layer 6: the document's Same, of two blocks that are the same. -/
import Derived.Test.YtahkiabpjfcfdaaBlkRd
import Derived.Test.YtahkiabpjfcfdaaBlkLaws
import Derived.Test.YtahkiabpjfcfdaaRefSame
import Derived.Test.YtahkiabpjfcfdaaBase
namespace Go.Proofs.Ytahkiabpjfcfdaa
open Go.RowKit
set_option linter.unusedVariables false
set_option linter.unusedSimpArgs false
set_option maxRecDepth 100000

theorem zero_BlkL (w : World) : BlkL w zeroBlk [] ⟨zeroKey, zeroKey, 0, []⟩ := ⟨SL.nil _ _ _, fun q h => (List.not_mem_nil h).elim, rfl, rfl, rfl, ⟨rfl, (by decide : (0 : Int) ≤ 0), (by decide : (0 : Int) ≤ 4294967295)⟩⟩
theorem BlkL.form {w : World} {v : BlkV} {qs : List (TxV × TxD)} {d : BlkD} (h : BlkL w v qs d) : v = ⟨d.prev, d.root, d.nonce, v.txs⟩ := by
  have h1 := h.prev
  have h2 := h.root
  have h3 := h.nonce.1
  cases v; simp only at h1 h2 h3; subst h1 h2 h3; rfl
attribute [local irreducible] Int.lt Int.le
attribute [local go_sem ↓] load_key store_key alloc_key build0_key eq_key load_tx store_tx alloc_tx build0_tx load_blk store_blk alloc_blk build0_blk
attribute [local go_sem] rowOf_drew canPut_drew canPut_alloc_old canPut_alloc_new setCells_alloc_new

set_option maxHeartbeats 4000000 in
theorem rsame6_any (v v' : BlkV) (qs qs' : List (TxV × TxD)) (d : BlkD) (W : World) (h : BlkL W v qs d) (h' : BlkL W v' qs' d) (hk : okB d) : Calls Try.prog 34 #[.agg (blkC v).toArray, .agg (blkC v').toArray] W (Gives (.bool true) W) := by
  have hB0 : Below W.heap.size W ((W.alloc (.cells (blkC v).toArray 50)).alloc (.cells (blkC v').toArray 50)) := ((Below.refl _ _).alloc (Nat.le_refl _) _).alloc (by simp) _
  have k1 : ((W.alloc (.cells (blkC v).toArray 50)).alloc (.cells (blkC v').toArray 50)).heap[W.heap.size]? = some (.cells (blkC v).toArray 50 (0, 0)) := by rw [Below.heap_alloc _ _ _ (by simp)]; exact heap_alloc_new W _
  have k2 : ((W.alloc (.cells (blkC v).toArray 50)).alloc (.cells (blkC v').toArray 50)).heap[W.heap.size + 1]? = some (.cells (blkC v').toArray 50 (0, 0)) := by
    have := heap_alloc_new (W.alloc (.cells (blkC v).toArray 50)) (.cells (blkC v').toArray 50)
    rw [World.size_alloc] at this
    exact this
  have L := h.below hB0
  have L' := h'.below hB0
  have hvl := h.vlen
  have hvl' := h'.vlen
  have hqd : qs.length = d.txs.length := by have := congrArg List.length h.cont; rw [List.length_map] at this; exact this.symm
  have hqd' : qs'.length = d.txs.length := by have := congrArg List.length h'.cont; rw [List.length_map] at this; exact this.symm
  have hcap := h.txs.2.1
  have hcap' := h'.txs.2.1
  have h40 := hk.1
  obtain ⟨p, hp⟩ : ∃ p, d.prev = p := ⟨_, rfl⟩
  obtain ⟨q, hq⟩ : ∃ p, d.root = p := ⟨_, rfl⟩
  obtain ⟨n, hn⟩ : ∃ p, d.nonce = p := ⟨_, rfl⟩
  obtain ⟨s0, r0, r1, r2, r3, r4⟩ := blk_all k1
  obtain ⟨t0, g0, g1, g2, g3, g4⟩ := blk_all k2
  rw [h.prev, hp] at r1
  rw [h.root, hq] at r2
  rw [h.nonce.1, hn] at r3
  rw [h'.prev, hp] at g1
  rw [h'.root, hq] at g2
  rw [h'.nonce.1, hn] at g3
  rw [hvl] at r4 hcap
  rw [hvl'] at g4 hcap'
  clear r0 g0
  replace hp := Box.mk hp
  replace hq := Box.mk hq
  replace hn := Box.mk hn
  replace h := Box.mk h
  replace h' := Box.mk h'
  replace hk := Box.mk hk
  replace k1 := Box.mk k1
  replace k2 := Box.mk k2
  replace L := Box.mk L
  replace L' := Box.mk L'
  replace hB0 := Box.mk hB0
  replace hvl := Box.mk hvl
  replace hvl' := Box.mk hvl'
  go_enter Try.func34, Try.ntmps34
  go_wp2_with fail
  generalize (W.alloc (.cells (blkC v).toArray 50)).alloc (.cells (blkC v').toArray 50) = w0 at *
  obtain ⟨B, hB⟩ : ∃ B, W.heap.size = B := ⟨_, rfl⟩
  rw [hB] at s0 r1 r2 r3 r4 t0 g1 g2 g3 g4 k1 k2 ⊢
  replace hB := Box.mk hB
  clear r1 r2 r3 g1 g2 g3
  go_loopw [5] (fun i wr => Since w0 wr ∧ ∃ j : Nat, j ≤ d.txs.length ∧ i = .int .i64 j) (fun i _ => d.txs.length - (intOf i).toNat)
  case atStart => exact ⟨Below.refl _ _, 0, Nat.zero_le _, rfl⟩
  case round =>
    obtain ⟨hb, j, hj, rfl⟩ := hrel
    replace hb : Below w0.heap.size w0 wr := hb
    have e1 := (hb.cell (p := ⟨B, 65, none⟩) s0).trans r4
    have e2 := (hb.cell (p := ⟨B + 1, 65, none⟩) t0).trans g4
    have hlr := hb.size
    have s1 : B < wr.heap.size := by omega
    have s2 : B + 1 < wr.heap.size := by omega
    clear r4 g4
    by_cases hlt : j < d.txs.length
    · have hlt' : (j : Int) < (d.txs.length : Int) := by omega
      obtain ⟨x, hx⟩ : ∃ x, qs[j]? = some x := ⟨_, List.getElem?_eq_getElem (by omega)⟩
      obtain ⟨y, hy⟩ : ∃ x, qs'[j]? = some x := ⟨_, List.getElem?_eq_getElem (by omega)⟩
      have hdx : d.txs[j]? = some x.2 := by rw [h.out.cont, List.getElem?_map, hx]; rfl
      have hdy : d.txs[j]? = some y.2 := by rw [h'.out.cont, List.getElem?_map, hy]; rfl
      have hxy : y.2 = x.2 := by rw [hdx] at hdy; injection hdy with hdy; exact hdy.symm
      have hTx := ((L.out.each x (List.mem_of_getElem? hx))).below hb
      have hTy := ((L'.out.each y (List.mem_of_getElem? hy))).below hb
      have hok := hk.out.2 _ (List.mem_of_getElem? hdx)
      obtain ⟨b, o, hae, hbl, hr⟩ := SL.elem (fun q => txC_length q.1) L.out.txs hx
      obtain ⟨b', o', hae', hbl', hr'⟩ := SL.elem (fun q => txC_length q.1) L'.out.txs hy
      have R1 : rowOf wr b (o + j * 38) 38 = some (txC x.1) := by rw [rowOf_congr (hb.block b hbl)]; exact hr
      have R2 : rowOf wr b' (o' + j * 38) 38 = some (txC y.1) := by rw [rowOf_congr (hb.block b' hbl')]; exact hr'
      have m1 : b < wr.heap.size := by omega
      have m2 : b' < wr.heap.size := by omega
      have hsm : sameB x.2 y.2 = true := by rw [hxy]; exact sameB_self _
      rw [hae] at e1
      rw [hae'] at e2
      have hlen : x.1.ins.len ≤ 100000 ∧ x.1.outs.len ≤ 100000 ∧ x.1.nulls.len ≤ 100000 ∧ x.1.notes.len ≤ 100000 := by
        obtain ⟨o1, o2, o3, o4⟩ := hok
        rw [hTx.ins.1, hTx.outs.1, hTx.nulls.1, hTx.notes.1]
        omega
      have hall : ∀ w', SinceP wr w' → (w'.cell? ⟨B, 65, none⟩ = some (.slice (some ⟨b, o, none⟩) d.txs.length v.txs.cap) ∧ w'.cell? ⟨B + 1, 65, none⟩ = some (.slice (some ⟨b', o', none⟩) d.txs.length v'.txs.cap) ∧ rowOf w' b (o + j * 38) 38 = some (txC x.1) ∧ rowOf w' b' (o' + j * 38) 38 = some (txC y.1) ∧ B < w'.heap.size ∧ B + 1 < w'.heap.size ∧ b < w'.heap.size ∧ b' < w'.heap.size) := fun w' hw => by
        have hz := hw.out.size
        exact ⟨(hw.out.cell (p := ⟨B, 65, none⟩) s1).trans e1, (hw.out.cell (p := ⟨B + 1, 65, none⟩) s2).trans e2, (rowOf_congr (hw.out.block b m1) _ _).trans R1, (rowOf_congr (hw.out.block b' m2) _ _).trans R2, by omega, by omega, by omega, by omega⟩
      replace hTx := Box.mk hTx
      replace hTy := Box.mk hTy
      replace hlen := Box.mk hlen
      replace hsm := Box.mk hsm
      replace hx := Box.mk hx
      replace hy := Box.mk hy
      replace hdx := Box.mk hdx
      replace hdy := Box.mk hdy
      replace hxy := Box.mk hxy
      replace hok := Box.mk hok
      replace hr := Box.mk hr
      replace hr' := Box.mk hr'
      replace hae := Box.mk hae
      replace hae' := Box.mk hae'
      have hbx := Box.mk hb
      go_wp2_with fail
      refine hreg_begin (S := SinceP wr) (by kernel_rfl) (SinceP.refl _).drew (fun hHeld => ?_)
      simp only [List.length_cons, List.length_nil, Nat.zero_add, Nat.reduceAdd, Array.replicate]
      refine hreg_take (i := 0) rfl (by kernel_rfl) (by kernel_rfl) (by kernel_rfl) hreg_panic (by rfl) hHeld ?_
      apply Exists.intro
      refine ⟨fun w' hw' => ?_, ?_⟩
      · have hf := hall w' hw'
        go_simp
        try go_bits
        exact yieldsV_mk rfl
      simp only [Act.put, List.setIfInBounds_toArray, List.set_cons_zero, List.set_cons_succ]
      refine hreg_take (i := 1) rfl (by kernel_rfl) (by kernel_rfl) (by kernel_rfl) hreg_panic (by rfl) hHeld ?_
      apply Exists.intro
      refine ⟨fun w' hw' => ?_, ?_⟩
      · have hf := hall w' hw'
        go_simp
        try go_bits
        exact yieldsV_mk rfl
      simp only [Act.put, List.setIfInBounds_toArray, List.set_cons_zero, List.set_cons_succ]
      refine hreg_take (i := 2) rfl (by kernel_rfl) (by kernel_rfl) (by kernel_rfl) hreg_panic (by rfl) hHeld ?_
      apply Exists.intro
      refine ⟨fun w' hw' => ?_, ?_⟩
      · have hf := hall w' hw'
        go_simp
        try go_bits
        exact yieldsV_mk rfl
      simp only [Act.put, List.setIfInBounds_toArray, List.set_cons_zero, List.set_cons_succ]
      refine hreg_take (i := 3) rfl (by kernel_rfl) (by kernel_rfl) (by kernel_rfl) hreg_panic (by rfl) hHeld ?_
      apply Exists.intro
      refine ⟨fun w' hw' => ?_, ?_⟩
      · have hf := hall w' hw'
        go_simp
        try go_bits
        exact yieldsV_mk rfl
      simp only [Act.put, List.setIfInBounds_toArray, List.set_cons_zero, List.set_cons_succ]
      refine hreg_take (i := 4) rfl (by kernel_rfl) (by kernel_rfl) (by kernel_rfl) hreg_panic (by rfl) hHeld ?_
      apply Exists.intro
      refine ⟨fun w' hw' => ?_, ?_⟩
      · have hf := hall w' hw'
        go_simp
        try go_bits
        exact yieldsV_mk rfl
      simp only [Act.put, List.setIfInBounds_toArray, List.set_cons_zero, List.set_cons_succ]
      refine hreg_take (i := 5) rfl (by kernel_rfl) (by kernel_rfl) (by kernel_rfl) hreg_panic (by rfl) hHeld ?_
      apply Exists.intro
      refine ⟨fun w' hw' => ?_, ?_⟩
      · have hf := hall w' hw'
        go_simp
        try go_bits
        exact yieldsV_mk rfl
      simp only [Act.put, List.setIfInBounds_toArray, List.set_cons_zero, List.set_cons_succ]
      refine hreg_take (i := 6) rfl (by kernel_rfl) (by kernel_rfl) (by kernel_rfl) hreg_panic (by rfl) hHeld ?_
      apply Exists.intro
      refine ⟨fun w' hw' => ?_, ?_⟩
      · have hf := hall w' hw'
        go_simp
        try go_bits
        exact yieldsV_mk rfl
      simp only [Act.put, List.setIfInBounds_toArray, List.set_cons_zero, List.set_cons_succ]
      refine hreg_take (i := 7) rfl (by kernel_rfl) (by kernel_rfl) (by kernel_rfl) hreg_panic (by rfl) hHeld ?_
      apply Exists.intro
      refine ⟨fun w' hw' => ?_, ?_⟩
      · have hf := hall w' hw'
        go_simp
        try go_bits
        exact yieldsV_mk rfl
      simp only [Act.put, List.setIfInBounds_toArray, List.set_cons_zero, List.set_cons_succ]
      refine hreg_take (i := 8) rfl (by kernel_rfl) (by kernel_rfl) (by kernel_rfl) hreg_panic (by rfl) hHeld ?_
      apply Exists.intro
      refine ⟨fun w' hw' => ?_, ?_⟩
      · have hf := hall w' hw'
        go_simp
        try go_bits
        exact yieldsV_mk rfl
      simp only [Act.put, List.setIfInBounds_toArray, List.set_cons_zero, List.set_cons_succ]
      refine hreg_take (i := 9) rfl (by kernel_rfl) (by kernel_rfl) (by kernel_rfl) hreg_panic (by rfl) hHeld ?_
      apply Exists.intro
      refine ⟨fun w' hw' => ?_, ?_⟩
      · have hf := hall w' hw'
        go_simp
        try go_bits
        exact yieldsV_mk rfl
      simp only [Act.put, List.setIfInBounds_toArray, List.set_cons_zero, List.set_cons_succ]
      refine wpAnyH_ready (rs := [10]) (by kernel_rfl) (by simp) ?_
      refine hreg_event (o := _) rfl (by rfl) (fun K hK => ?_) ?_
      · go_simp
        first
          | (go_at_call 65; refine (refSame_any x.1 y.1 x.2 y.2 _ (hTx.out.below (Below.refl _ _).drew) (hTy.out.below (Below.refl _ _).drew) hlen.out).mono ?_; rw [hsm.out]; rintro e wn ⟨rfl, hb⟩)
          | skip
        refine hK.out _ _ ?_ (fun hHeld' => ?_)
        · first
            | exact hHeld.next hb
            | exact hHeld
            | exact hHeld.alloc _
            | exact hHeld.setCell (by simp <;> omega) _
            | exact (hHeld.alloc _).alloc _
        replace hHeld := hHeld'
        clear hHeld' hK K
        simp only [Act.put, List.setIfInBounds_toArray, List.set_cons_zero, List.set_cons_succ]
        refine hreg_take (i := 11) rfl (by kernel_rfl) (by kernel_rfl) (by kernel_rfl) hreg_panic (by rfl) hHeld ?_
        apply Exists.intro
        refine ⟨fun w' hw' => ?_, ?_⟩
        · have hf := hall w' hw'
          go_simp
          try go_bits
          exact yieldsV_mk rfl
        simp only [Act.put, List.setIfInBounds_toArray, List.set_cons_zero, List.set_cons_succ]
        refine wpAnyH_done (by kernel_rfl) ?_ _
        refine NoPanic.normal ?_
        have hfin := Box.mk (hbx.out.trans (hHeld.out.mono hbx.out.size))
        clear hHeld hall e1 e2 R1 R2
        go_wp2
        go_roundw
        case rel => exact ⟨hfin.out, j + 1, by omega, by go_num⟩
        case measure => simp [intOf]; omega
      exact AllReadyH.nil
    · obtain rfl : j = d.txs.length := by omega
      go_wp2_with fail
      go_ret
      exact gives_bool rfl (hB0.out.trans (hb.mono hB0.out.size))
end Go.Proofs.Ytahkiabpjfcfdaa
