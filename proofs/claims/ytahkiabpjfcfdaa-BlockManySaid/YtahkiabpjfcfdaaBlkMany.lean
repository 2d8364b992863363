/- Layer 6: a block of nothing, or of too many, has no bytes; bytes that tell so are refused. (printed by mkblkmany.py) -/
import Derived.Test.YtahkiabpjfcfdaaBlkMany1
import Derived.Test.YtahkiabpjfcfdaaBase
namespace Go.Proofs.Ytahkiabpjfcfdaa
open Go.RowKit
set_option linter.unusedVariables false
set_option linter.unusedSimpArgs false
set_option maxRecDepth 100000
attribute [local irreducible] Int.lt Int.le
attribute [local go_sem ↓] load_key store_key alloc_key build0_key eq_key load_tx store_tx alloc_tx build0_tx load_blk store_blk alloc_blk build0_blk make_tx build_blk03
attribute [local go_sem] rowOf_drew rowOf_alloc_old rowOf_alloc_new canPut_drew canPut_alloc_old canPut_alloc_new setCells_alloc_new

/-- The block as it lies once the list and the variable are made, in the two orders. -/
theorem manyA (w0 : World) (k : Key) (m : Nat) (hm : m < 50) :
    let V : BlkV := ⟨k, zeroKey, 0, ⟨some ⟨w0.heap.size, 0, none⟩, m, m⟩⟩
    let w := ((w0.alloc (.cells (rows (fun q : TxV × TxD => txC q.1) (List.replicate m (zeroTx, zeroT))).toArray 41)).alloc (.cells (blkC zeroBlk).toArray 50)).drew.setCells (w0.heap.size + 1) 0 (blkC V)
    w.heap[w0.heap.size + 1]? = some (.cells (blkC V).toArray 50 (0, 0)) ∧ BlkL w V (List.replicate m (zeroTx, zeroT)) (manyD k m) ∧ Below w0.heap.size w0 w := by
  intro V w
  have h1 := SL.new (f := fun q : TxV × TxD => txC q.1) (fun q => txC_length q.1) w0 (List.replicate m (zeroTx, zeroT)) 41 w0.heap.size rfl (by rw [List.length_replicate]; unfold maxLen; omega)
  rw [List.length_replicate] at h1
  have z1 : (w0.alloc (.cells (rows (fun q : TxV × TxD => txC q.1) (List.replicate m (zeroTx, zeroT))).toArray 41)).heap.size = w0.heap.size + 1 := by simp
  have b1 : Below w0.heap.size w0 (w0.alloc (.cells (rows (fun q : TxV × TxD => txC q.1) (List.replicate m (zeroTx, zeroT))).toArray 41)) := (Below.refl _ _).alloc (Nat.le_refl _) _
  show ((((w0.alloc (.cells (rows (fun q : TxV × TxD => txC q.1) (List.replicate m (zeroTx, zeroT))).toArray 41)).alloc (.cells (blkC zeroBlk).toArray 50)).drew.setCells (w0.heap.size + 1) 0 (blkC V)).heap[w0.heap.size + 1]? = _) ∧ BlkL (((w0.alloc (.cells (rows (fun q : TxV × TxD => txC q.1) (List.replicate m (zeroTx, zeroT))).toArray 41)).alloc (.cells (blkC zeroBlk).toArray 50)).drew.setCells (w0.heap.size + 1) 0 (blkC V)) _ _ _ ∧ Below _ _ (((w0.alloc (.cells (rows (fun q : TxV × TxD => txC q.1) (List.replicate m (zeroTx, zeroT))).toArray 41)).alloc (.cells (blkC zeroBlk).toArray 50)).drew.setCells (w0.heap.size + 1) 0 (blkC V))
  generalize w0.alloc (.cells (rows (fun q : TxV × TxD => txC q.1) (List.replicate m (zeroTx, zeroT))).toArray 41) = w1 at *
  have q2 := heap_alloc_new w1 (.cells (blkC zeroBlk).toArray 50)
  rw [z1] at q2
  have b2 : Below w1.heap.size w1 (w1.alloc (.cells (blkC zeroBlk).toArray 50)).drew := ((Below.refl _ _).alloc (Nat.le_refl _) _).drew
  have h2 := h1.below b2
  have b3 := b1.trans (b2.mono (by omega))
  have q3 : (w1.alloc (.cells (blkC zeroBlk).toArray 50)).drew.heap[w0.heap.size + 1]? = some (.cells (blkC zeroBlk).toArray 50 (0, 0)) := q2
  generalize (w1.alloc (.cells (blkC zeroBlk).toArray 50)).drew = w2 at *
  refine ⟨heap_setCells_all q3 (by rw [blkC_length, blkC_length]), many_L (h2.keep (fun x hx => ?_) (by rw [setCells_size]; exact Nat.le_refl _)), below_setCells (Nat.le_succ _) _ _ _ _ b3⟩
  injection hx with hx
  subst hx
  exact heap_setCells_ne (by show w0.heap.size ≠ w0.heap.size + 1; omega) _ _
theorem manyB' (w0 : World) (k : Key) (m : Nat) (hm : m < 50) :
    let V : BlkV := ⟨k, zeroKey, 0, ⟨some ⟨w0.heap.size + 1, 0, none⟩, m, m⟩⟩
    let w := ((w0.alloc (.cells (blkC zeroBlk).toArray 50)).alloc (.cells (rows (fun q : TxV × TxD => txC q.1) (List.replicate m (zeroTx, zeroT))).toArray 41)).drew.setCells w0.heap.size 0 (blkC V)
    w.heap[w0.heap.size]? = some (.cells (blkC V).toArray 50 (0, 0)) ∧ BlkL w V (List.replicate m (zeroTx, zeroT)) (manyD k m) ∧ Below w0.heap.size w0 w := by
  intro V w
  have z1 : (w0.alloc (.cells (blkC zeroBlk).toArray 50)).heap.size = w0.heap.size + 1 := by simp
  have b1 : Below w0.heap.size w0 (w0.alloc (.cells (blkC zeroBlk).toArray 50)) := (Below.refl _ _).alloc (Nat.le_refl _) _
  have q1 := heap_alloc_new w0 (.cells (blkC zeroBlk).toArray 50)
  show (((w0.alloc (.cells (blkC zeroBlk).toArray 50)).alloc (.cells (rows (fun q : TxV × TxD => txC q.1) (List.replicate m (zeroTx, zeroT))).toArray 41)).drew.setCells w0.heap.size 0 (blkC V)).heap[w0.heap.size]? = _ ∧ BlkL (((w0.alloc (.cells (blkC zeroBlk).toArray 50)).alloc (.cells (rows (fun q : TxV × TxD => txC q.1) (List.replicate m (zeroTx, zeroT))).toArray 41)).drew.setCells w0.heap.size 0 (blkC V)) _ _ _ ∧ Below _ _ (((w0.alloc (.cells (blkC zeroBlk).toArray 50)).alloc (.cells (rows (fun q : TxV × TxD => txC q.1) (List.replicate m (zeroTx, zeroT))).toArray 41)).drew.setCells w0.heap.size 0 (blkC V))
  generalize w0.alloc (.cells (blkC zeroBlk).toArray 50) = w1 at *
  have h1 := SL.new (f := fun q : TxV × TxD => txC q.1) (fun q => txC_length q.1) w1 (List.replicate m (zeroTx, zeroT)) 41 (w0.heap.size + 1) z1.symm (by rw [List.length_replicate]; unfold maxLen; omega)
  rw [List.length_replicate] at h1
  have h2 := h1.drew
  have b2 : Below w1.heap.size w1 (w1.alloc (.cells (rows (fun q : TxV × TxD => txC q.1) (List.replicate m (zeroTx, zeroT))).toArray 41)).drew := ((Below.refl _ _).alloc (Nat.le_refl _) _).drew
  have b3 := b1.trans (b2.mono (by omega))
  have q3 := keepBlock b2 q1
  generalize (w1.alloc (.cells (rows (fun q : TxV × TxD => txC q.1) (List.replicate m (zeroTx, zeroT))).toArray 41)).drew = w2 at *
  refine ⟨heap_setCells_all q3 (by rw [blkC_length, blkC_length]), many_L (h2.keep (fun x hx => ?_) (by rw [setCells_size]; exact Nat.le_refl _)), below_setCells (Nat.le_refl _) _ _ _ _ b3⟩
  injection hx with hx
  subst hx
  exact heap_setCells_ne (by show w0.heap.size + 1 ≠ w0.heap.size; omega) _ _

set_option maxHeartbeats 8000000 in
theorem blockMany_walk (n : Nat) (hn : n ≤ 255) (k : Key) (W : World) : Calls Try.prog 13 #[.int .u8 n, .agg (keyC k).toArray] W (Gives (.bool true) W) := by
  obtain ⟨m, hm50, hm1, hm2⟩ : ∃ m : Nat, m < 50 ∧ (n : Int) % 50 = (m : Int) ∧ (n : Int).tmod 50 = (m : Int) := ⟨n % 50, Nat.mod_lt _ (by decide), by simp, by rw [Int.tmod_eq_emod_of_nonneg (by omega)]; simp⟩
  have hB0 : Below W.heap.size W (W.alloc (.cells (keyC k).toArray 38)) := (Below.refl _ _).alloc (Nat.le_refl _) _
  have K_k := Box.mk (heap_alloc_new W (.cells (keyC k).toArray 38))
  have BW := Box.mk hB0
  clear hB0
  have hm0 : (0 : Int) ≤ m := by omega
  have hm3 : (m : Int) ≤ 2000000 := by omega
  go_enter Try.func13, Try.ntmps13
  go_wp2_with fail
  generalize W.alloc (.cells (keyC k).toArray 38) = w0 at *
  have hall : ∀ w', SinceP w0 w' → (rowOf w' W.heap.size 0 32 = some (keyC k) ∧ W.heap.size < w'.heap.size) := fun w' h => by
    have := keepBlock h.out K_k.out
    exact ⟨key_row' this, (Array.getElem?_eq_some_iff.1 this).1⟩
  refine zreg_begin (z := 5) (S := SinceP w0) (by kernel_rfl) (SinceP.refl _).drew (fun hHeld => ?_)
  simp only [List.length_cons, List.length_nil, Nat.zero_add, Nat.reduceAdd, Array.replicate]
  refine zreg_take (i := 0) rfl (by kernel_rfl) (by kernel_rfl) (by kernel_rfl) (by kernel_rfl) hreg_panic (by rfl) hHeld ?_
  apply Exists.intro
  refine ⟨fun w' hw' => ?_, ?_⟩
  · have hf := hall w' hw'
    go_simp
    try go_bits
    exact yieldsV_mk rfl
  simp only [Act.put, List.setIfInBounds_toArray, List.set_cons_zero, List.set_cons_succ]
  refine zreg_take (i := 1) rfl (by kernel_rfl) (by kernel_rfl) (by kernel_rfl) (by kernel_rfl) hreg_panic (by rfl) hHeld ?_
  apply Exists.intro
  refine ⟨fun w' hw' => ?_, ?_⟩
  · have hf := hall w' hw'
    go_simp
    try go_bits
    exact yieldsV_mk rfl
  simp only [Act.put, List.setIfInBounds_toArray, List.set_cons_zero, List.set_cons_succ]
  refine wpAnyZ_ready (rs := [2, 4]) (by kernel_rfl) (by simp) ?_
  refine zreg_event (o := _) rfl (by rfl) (by decide) (fun K hK => ?_) ?_
  · go_simp
    first
      | skip
    refine hK.out _ _ ?_ (fun hHeld' => ?_)
    · first
        | exact hHeld.next hb
        | exact hHeld
        | exact hHeld.alloc _
        | exact hHeld.setCell (by simp <;> omega) _
        | exact (hHeld.alloc _).alloc _
    replace hHeld := hHeld'
    clear hHeld' hK K
    simp only [Act.put, List.setIfInBounds_toArray, List.set_cons_zero, List.set_cons_succ]
    refine zreg_take (i := 3) rfl (by kernel_rfl) (by kernel_rfl) (by kernel_rfl) (by kernel_rfl) hreg_panic (by rfl) hHeld ?_
    apply Exists.intro
    refine ⟨fun w' hw' => ?_, ?_⟩
    · have hf := hall w' hw'
      go_simp
      try go_bits
      exact yieldsV_mk rfl
    simp only [Act.put, List.setIfInBounds_toArray, List.set_cons_zero, List.set_cons_succ]
    refine wpAnyZ_ready (rs := [4]) (by kernel_rfl) (by simp) ?_
    refine zreg_event (o := _) rfl (by rfl) (by decide) (fun K hK => ?_) ?_
    · go_simp
      first
        | skip
      refine hK.out _ _ ?_ (fun hHeld' => ?_)
      · first
          | exact hHeld.next hb
          | exact hHeld
          | exact hHeld.alloc _
          | exact hHeld.setCell (by simp <;> omega) _
          | exact (hHeld.alloc _).alloc _
      replace hHeld := hHeld'
      clear hHeld' hK K
      simp only [Act.put, List.setIfInBounds_toArray, List.set_cons_zero, List.set_cons_succ]
      refine wpAnyZ_ready (rs := [5]) (by kernel_rfl) (by simp) ?_
      refine zreg_last (o := _) rfl (by rfl) (fun K hK => ?_) ?_
      · go_simp
        first
          | skip
        refine hK.out _ _ ?_
        clear hK K hHeld
        simp only [Act.put, List.setIfInBounds_toArray, List.set_cons_zero, List.set_cons_succ]
        refine wpAnyZ_done (by kernel_rfl) ?_ _
        refine NoPanic.normal ?_
        obtain ⟨hb, hL, hB8⟩ := manyA w0 k m hm50
        have K_b := Box.mk hb
        have L := Box.mk hL
        replace BW := Box.mk (BW.out.trans (hB8.mono BW.out.size))
        replace K_k := Box.mk (keepBlock hB8 K_k.out)
        clear hb hL hB8 hall
        try clear hHeld
        obtain ⟨V, hV⟩ : ∃ V : BlkV, V = ⟨k, zeroKey, 0, ⟨some ⟨w0.heap.size, 0, none⟩, m, m⟩⟩ := ⟨_, rfl⟩
        rw [← hV] at K_b K_k BW L ⊢
        replace hV := Box.mk hV
        generalize ((w0.alloc (.cells (rows (fun q : TxV × TxD => txC q.1) (List.replicate m (zeroTx, zeroT))).toArray 41)).alloc (.cells (blkC zeroBlk).toArray 50)).drew.setCells (w0.heap.size + 1) 0 (blkC V) = w8 at *
        obtain ⟨g, hg⟩ : ∃ g, w0.heap.size + 1 = g := ⟨_, rfl⟩
        rw [hg] at K_b ⊢
        replace hg := Box.mk hg
        by_cases h0 : m = 0
        · have h0' : ((m : Int) == 0) = true := by rw [beq_iff_eq]; omega
          have h30' : ¬ (30 : Int) < m := by omega
          have R_b := blk_row K_b.out
          have S_b := (Array.getElem?_eq_some_iff.1 K_b.out).1
          have hXv : blkV (manyD k m) = ([], 110) := blkV_zero (by rw [many_len]; exact h0)
          have hId := fun w (hb : Below w8.heap.size w8 w) => bid_any V _ (manyD k m) w (L.out.below hb) (many_ok (by omega))
          have hNm : nameB (manyD k m) = (zeroKey, 110) := nameB_err hXv (by decide)
          have hEnc := fun w (hb : Below w8.heap.size w8 w) => bencode_any V _ (manyD k m) w (L.out.below hb) (many_ok (by omega))
          simp only [hXv] at hEnc
          simp only [hNm] at hId
          have hbad := head_bad (k := k) hm50 (.inl h0)
          rw [if_pos h0] at hbad
          replace h0 := Box.mk h0
          replace hXv := Box.mk hXv
          replace hNm := Box.mk hNm
          unfold valE at hEnc
          unfold valNm at hId
          replace hEnc := Box.mk hEnc
          replace hId := Box.mk hId
          replace hbad := Box.mk hbad
          have R8 := Box.mk (Below.refl w8.heap.size w8)
          go_wp2_with fail
          refine (hEnc.out w8 R8.out).mono ?_
          rintro e w9 ⟨rfl, b9⟩
          clear R_b
          clear S_b
          replace K_k := Box.mk (keepBlock b9 K_k.out)
          replace K_b := Box.mk (keepBlock b9 K_b.out)
          replace L := Box.mk (L.out.below b9)
          replace BW := Box.mk (BW.out.trans (b9.mono BW.out.size))
          have R_b := blk_row K_b.out
          have S_b := (Array.getElem?_eq_some_iff.1 K_b.out).1
          replace R8 := Box.mk (since_next R8.out b9)
          go_wp2_with fail
          refine (hId.out w9 R8.out).mono ?_
          rintro e wa ⟨rfl, ba⟩
          clear R_b
          clear S_b
          replace K_k := Box.mk (keepBlock ba K_k.out)
          replace K_b := Box.mk (keepBlock ba K_b.out)
          replace L := Box.mk (L.out.below ba)
          replace BW := Box.mk (BW.out.trans (ba.mono BW.out.size))
          have R_k := key_row' K_k.out
          have S_k := (Array.getElem?_eq_some_iff.1 K_k.out).1
          replace R8 := Box.mk (since_next R8.out ba)
          go_wp2_with fail
          clear R_k
          clear S_k
          have hA : Below wa.heap.size wa (wa.alloc (.cells (keyC zeroKey).toArray 38)) := (Below.refl _ _).alloc (Nat.le_refl _) _
          replace K_k := Box.mk (keepBlock hA K_k.out)
          replace K_b := Box.mk (keepBlock hA K_b.out)
          replace L := Box.mk (L.out.below hA)
          replace BW := Box.mk (BW.out.trans (hA.mono BW.out.size))
          replace R8 := Box.mk (since_next R8.out hA)
          clear hA
          refine (rhead6_any k m _ (by omega)).mono ?_
          rintro e wc ⟨rfl, bc⟩
          replace K_k := Box.mk (keepBlock bc K_k.out)
          replace K_b := Box.mk (keepBlock bc K_b.out)
          replace L := Box.mk (L.out.below bc)
          replace BW := Box.mk (BW.out.trans (bc.mono BW.out.size))
          replace R8 := Box.mk (since_next R8.out bc)
          go_wp2_with fail
          have hdl : (k.val ++ (zeroKey.val ++ (le 4 0 ++ compactL m))).length ≤ 1000000 := by simp only [List.length_append, le_length, k.property, zeroKey.property, show (compactL m).length = 1 from by unfold compactL; rw [if_pos (by omega), le_length]]; omega
          refine (bdecode_any _ wc hdl).mono ?_
          rw [hbad.out]
          clear hdl
          rintro e wd ⟨rfl, _, bb⟩
          replace K_k := Box.mk (keepBlock bb K_k.out)
          replace K_b := Box.mk (keepBlock bb K_b.out)
          replace L := Box.mk (L.out.below bb)
          replace BW := Box.mk (BW.out.trans (bb.mono BW.out.size))
          replace R8 := Box.mk (since_next R8.out bb)
          have hA : Below wd.heap.size wd (wd.alloc (.cells (blkC zeroBlk).toArray 50)) := (Below.refl _ _).alloc (Nat.le_refl _) _
          replace K_k := Box.mk (keepBlock hA K_k.out)
          replace K_b := Box.mk (keepBlock hA K_b.out)
          replace L := Box.mk (L.out.below hA)
          replace BW := Box.mk (BW.out.trans (hA.mono BW.out.size))
          replace R8 := Box.mk (since_next R8.out hA)
          clear hA
          go_wp2_with fail
          refine (shown06_any _).mono ?_
          rintro e we ⟨rfl, be⟩
          replace K_k := Box.mk (keepBlock be K_k.out)
          replace K_b := Box.mk (keepBlock be K_b.out)
          replace L := Box.mk (L.out.below be)
          replace BW := Box.mk (BW.out.trans (be.mono BW.out.size))
          replace R8 := Box.mk (since_next R8.out be)
          go_wp2
          go_ret
          exact gives_bool (by first | rfl | (simp; try omega)) BW.out
        · have h0' : ((m : Int) == 0) = false := by rw [beq_eq_false_iff_ne]; omega
          by_cases h30 : 30 < m
          · have h30' : (30 : Int) < m := by omega
            have R_b := blk_row K_b.out
            have S_b := (Array.getElem?_eq_some_iff.1 K_b.out).1
            have hVl : 30 < V.txs.len := by have := L.out.vlen; rw [many_len] at this; omega
            have hEnc := fun w (hb : Below w8.heap.size w8 w) => bencode_many V w hVl
            have hId := fun w (hb : Below w8.heap.size w8 w) => bid_err V 51 (by decide) w (fun w' _ => bencode_many V w' hVl)
            have hbad := head_bad (k := k) hm50 (.inr h30)
            rw [if_neg (by omega)] at hbad
            unfold valE at hEnc
            unfold valNm at hId
            replace hEnc := Box.mk hEnc
            replace hId := Box.mk hId
            replace hbad := Box.mk hbad
            have R8 := Box.mk (Below.refl w8.heap.size w8)
            go_wp2_with fail
            refine (hEnc.out w8 R8.out).mono ?_
            rintro e w9 ⟨rfl, b9⟩
            clear R_b
            clear S_b
            replace K_k := Box.mk (keepBlock b9 K_k.out)
            replace K_b := Box.mk (keepBlock b9 K_b.out)
            replace L := Box.mk (L.out.below b9)
            replace BW := Box.mk (BW.out.trans (b9.mono BW.out.size))
            have R_b := blk_row K_b.out
            have S_b := (Array.getElem?_eq_some_iff.1 K_b.out).1
            replace R8 := Box.mk (since_next R8.out b9)
            go_wp2_with fail
            refine (hId.out w9 R8.out).mono ?_
            rintro e wa ⟨rfl, ba⟩
            clear R_b
            clear S_b
            replace K_k := Box.mk (keepBlock ba K_k.out)
            replace K_b := Box.mk (keepBlock ba K_b.out)
            replace L := Box.mk (L.out.below ba)
            replace BW := Box.mk (BW.out.trans (ba.mono BW.out.size))
            have R_k := key_row' K_k.out
            have S_k := (Array.getElem?_eq_some_iff.1 K_k.out).1
            replace R8 := Box.mk (since_next R8.out ba)
            go_wp2_with fail
            clear R_k
            clear S_k
            have hA : Below wa.heap.size wa (wa.alloc (.cells (keyC zeroKey).toArray 38)) := (Below.refl _ _).alloc (Nat.le_refl _) _
            replace K_k := Box.mk (keepBlock hA K_k.out)
            replace K_b := Box.mk (keepBlock hA K_b.out)
            replace L := Box.mk (L.out.below hA)
            replace BW := Box.mk (BW.out.trans (hA.mono BW.out.size))
            replace R8 := Box.mk (since_next R8.out hA)
            clear hA
            refine (rhead6_any k m _ (by omega)).mono ?_
            rintro e wc ⟨rfl, bc⟩
            replace K_k := Box.mk (keepBlock bc K_k.out)
            replace K_b := Box.mk (keepBlock bc K_b.out)
            replace L := Box.mk (L.out.below bc)
            replace BW := Box.mk (BW.out.trans (bc.mono BW.out.size))
            replace R8 := Box.mk (since_next R8.out bc)
            go_wp2_with fail
            have hdl : (k.val ++ (zeroKey.val ++ (le 4 0 ++ compactL m))).length ≤ 1000000 := by simp only [List.length_append, le_length, k.property, zeroKey.property, show (compactL m).length = 1 from by unfold compactL; rw [if_pos (by omega), le_length]]; omega
            refine (bdecode_any _ wc hdl).mono ?_
            rw [hbad.out]
            clear hdl
            rintro e wd ⟨rfl, _, bb⟩
            replace K_k := Box.mk (keepBlock bb K_k.out)
            replace K_b := Box.mk (keepBlock bb K_b.out)
            replace L := Box.mk (L.out.below bb)
            replace BW := Box.mk (BW.out.trans (bb.mono BW.out.size))
            replace R8 := Box.mk (since_next R8.out bb)
            have hA : Below wd.heap.size wd (wd.alloc (.cells (blkC zeroBlk).toArray 50)) := (Below.refl _ _).alloc (Nat.le_refl _) _
            replace K_k := Box.mk (keepBlock hA K_k.out)
            replace K_b := Box.mk (keepBlock hA K_b.out)
            replace L := Box.mk (L.out.below hA)
            replace BW := Box.mk (BW.out.trans (hA.mono BW.out.size))
            replace R8 := Box.mk (since_next R8.out hA)
            clear hA
            go_wp2_with fail
            refine (shown06_any _).mono ?_
            rintro e we ⟨rfl, be⟩
            replace K_k := Box.mk (keepBlock be K_k.out)
            replace K_b := Box.mk (keepBlock be K_b.out)
            replace L := Box.mk (L.out.below be)
            replace BW := Box.mk (BW.out.trans (be.mono BW.out.size))
            replace R8 := Box.mk (since_next R8.out be)
            go_wp2
            go_ret
            exact gives_bool (by first | rfl | (simp; try omega)) BW.out
          · have h30' : ¬ (30 : Int) < m := by omega
            have R_b := blk_row K_b.out
            have S_b := (Array.getElem?_eq_some_iff.1 K_b.out).1
            obtain ⟨bs, hXv, hbl⟩ := many_V (k := k) (m := m) (by omega) (by omega)
            obtain ⟨kk, hNm⟩ : ∃ kk, nameB (manyD k m) = (kk, 0) := ⟨_, nameB_ok hXv⟩
            have hId := fun w (hb : Below w8.heap.size w8 w) => bid_any V _ (manyD k m) w (L.out.below hb) (many_ok (by omega))
            have hEnc := fun w (hb : Below w8.heap.size w8 w) => bencode_any V _ (manyD k m) w (L.out.below hb) (many_ok (by omega))
            simp only [hXv] at hEnc
            simp only [hNm] at hId
            replace hXv := Box.mk hXv
            replace hNm := Box.mk hNm
            unfold valE at hEnc
            unfold valNm at hId
            replace hEnc := Box.mk hEnc
            replace hId := Box.mk hId
            have R8 := Box.mk (Below.refl w8.heap.size w8)
            go_wp2_with fail
            refine (hEnc.out w8 R8.out).mono ?_
            rintro e w9 ⟨rfl, b9⟩
            clear R_b
            clear S_b
            replace K_k := Box.mk (keepBlock b9 K_k.out)
            replace K_b := Box.mk (keepBlock b9 K_b.out)
            replace L := Box.mk (L.out.below b9)
            replace BW := Box.mk (BW.out.trans (b9.mono BW.out.size))
            have R_b := blk_row K_b.out
            have S_b := (Array.getElem?_eq_some_iff.1 K_b.out).1
            replace R8 := Box.mk (since_next R8.out b9)
            go_wp2_with fail
            refine (hId.out w9 R8.out).mono ?_
            rintro e wa ⟨rfl, ba⟩
            clear R_b
            clear S_b
            replace K_k := Box.mk (keepBlock ba K_k.out)
            replace K_b := Box.mk (keepBlock ba K_b.out)
            replace L := Box.mk (L.out.below ba)
            replace BW := Box.mk (BW.out.trans (ba.mono BW.out.size))
            have R_k := key_row' K_k.out
            have S_k := (Array.getElem?_eq_some_iff.1 K_k.out).1
            replace R8 := Box.mk (since_next R8.out ba)
            go_wp2_with fail
            clear R_k
            clear S_k
            have hA : Below wa.heap.size wa (wa.alloc (.cells (keyC kk).toArray 38)) := (Below.refl _ _).alloc (Nat.le_refl _) _
            replace K_k := Box.mk (keepBlock hA K_k.out)
            replace K_b := Box.mk (keepBlock hA K_b.out)
            replace L := Box.mk (L.out.below hA)
            replace BW := Box.mk (BW.out.trans (hA.mono BW.out.size))
            replace R8 := Box.mk (since_next R8.out hA)
            clear hA
            refine (rhead6_any k m _ (by omega)).mono ?_
            rintro e wc ⟨rfl, bc⟩
            replace K_k := Box.mk (keepBlock bc K_k.out)
            replace K_b := Box.mk (keepBlock bc K_b.out)
            replace L := Box.mk (L.out.below bc)
            replace BW := Box.mk (BW.out.trans (bc.mono BW.out.size))
            replace R8 := Box.mk (since_next R8.out bc)
            go_wp2_with fail
            obtain ⟨hd, hhd⟩ : ∃ l, k.val ++ (zeroKey.val ++ (le 4 0 ++ compactL m)) = l := ⟨_, rfl⟩
            have hdl : hd.length ≤ 1000000 := by rw [← hhd]; simp only [List.length_append, le_length, k.property, zeroKey.property, show (compactL m).length = 1 from by unfold compactL; rw [if_pos (by omega), le_length]]; omega
            rw [hhd]
            replace hhd := Box.mk hhd
            refine (bdecode_any hd wc hdl).mono ?_
            intro e wd h
            obtain ⟨v', qs', rfl, La, bb⟩ := h.any
            clear h hdl
            obtain ⟨x', hx'⟩ : ∃ x, blkXo (blkRd hd) = x := ⟨_, rfl⟩
            rw [hx']
            replace hx' := Box.mk hx'
            replace La := Box.mk La
            replace K_k := Box.mk (keepBlock bb K_k.out)
            replace K_b := Box.mk (keepBlock bb K_b.out)
            replace L := Box.mk (L.out.below bb)
            replace BW := Box.mk (BW.out.trans (bb.mono BW.out.size))
            replace R8 := Box.mk (since_next R8.out bb)
            have hA : Below wd.heap.size wd (wd.alloc (.cells (blkC v').toArray 50)) := (Below.refl _ _).alloc (Nat.le_refl _) _
            replace K_k := Box.mk (keepBlock hA K_k.out)
            replace K_b := Box.mk (keepBlock hA K_b.out)
            replace L := Box.mk (L.out.below hA)
            replace BW := Box.mk (BW.out.trans (hA.mono BW.out.size))
            replace R8 := Box.mk (since_next R8.out hA)
            clear hA
            have hbl' : ((bs.length : Nat) : Int) = ((69 + 16 * m : Nat) : Int) := by rw [hbl]
            skip
            go_wp2_with fail
            refine (shown06_any _).mono ?_
            rintro e we ⟨rfl, be⟩
            replace K_k := Box.mk (keepBlock be K_k.out)
            replace K_b := Box.mk (keepBlock be K_b.out)
            replace L := Box.mk (L.out.below be)
            replace BW := Box.mk (BW.out.trans (be.mono BW.out.size))
            replace R8 := Box.mk (since_next R8.out be)
            go_wp2
            go_ret
            exact gives_bool (by first | rfl | (simp; try omega)) BW.out
      exact AllReadyZ.nil
    exact AllReadyZ.nil
  refine zreg_event (o := _) rfl (by rfl) (by decide) (fun K hK => ?_) ?_
  · go_simp
    first
      | skip
    refine hK.out _ _ ?_ (fun hHeld' => ?_)
    · first
        | exact hHeld.next hb
        | exact hHeld
        | exact hHeld.alloc _
        | exact hHeld.setCell (by simp <;> omega) _
        | exact (hHeld.alloc _).alloc _
    replace hHeld := hHeld'
    clear hHeld' hK K
    simp only [Act.put, List.setIfInBounds_toArray, List.set_cons_zero, List.set_cons_succ]
    refine wpAnyZ_ready (rs := [2]) (by kernel_rfl) (by simp) ?_
    refine zreg_event (o := _) rfl (by rfl) (by decide) (fun K hK => ?_) ?_
    · go_simp
      first
        | skip
      refine hK.out _ _ ?_ (fun hHeld' => ?_)
      · first
          | exact hHeld.next hb
          | exact hHeld
          | exact hHeld.alloc _
          | exact hHeld.setCell (by simp <;> omega) _
          | exact (hHeld.alloc _).alloc _
      replace hHeld := hHeld'
      clear hHeld' hK K
      simp only [Act.put, List.setIfInBounds_toArray, List.set_cons_zero, List.set_cons_succ]
      refine zreg_take (i := 3) rfl (by kernel_rfl) (by kernel_rfl) (by kernel_rfl) (by kernel_rfl) hreg_panic (by rfl) hHeld ?_
      apply Exists.intro
      refine ⟨fun w' hw' => ?_, ?_⟩
      · have hf := hall w' hw'
        go_simp
        try go_bits
        exact yieldsV_mk rfl
      simp only [Act.put, List.setIfInBounds_toArray, List.set_cons_zero, List.set_cons_succ]
      refine wpAnyZ_ready (rs := [5]) (by kernel_rfl) (by simp) ?_
      refine zreg_last (o := _) rfl (by rfl) (fun K hK => ?_) ?_
      · go_simp
        first
          | skip
        refine hK.out _ _ ?_
        clear hK K hHeld
        simp only [Act.put, List.setIfInBounds_toArray, List.set_cons_zero, List.set_cons_succ]
        refine wpAnyZ_done (by kernel_rfl) ?_ _
        refine NoPanic.normal ?_
        obtain ⟨hb, hL, hB8⟩ := manyB' w0 k m hm50
        have K_b := Box.mk hb
        have L := Box.mk hL
        replace BW := Box.mk (BW.out.trans (hB8.mono BW.out.size))
        replace K_k := Box.mk (keepBlock hB8 K_k.out)
        clear hb hL hB8 hall
        try clear hHeld
        obtain ⟨V, hV⟩ : ∃ V : BlkV, V = ⟨k, zeroKey, 0, ⟨some ⟨w0.heap.size + 1, 0, none⟩, m, m⟩⟩ := ⟨_, rfl⟩
        rw [← hV] at K_b K_k BW L ⊢
        replace hV := Box.mk hV
        generalize ((w0.alloc (.cells (blkC zeroBlk).toArray 50)).alloc (.cells (rows (fun q : TxV × TxD => txC q.1) (List.replicate m (zeroTx, zeroT))).toArray 41)).drew.setCells w0.heap.size 0 (blkC V) = w8 at *
        obtain ⟨g, hg⟩ : ∃ g, w0.heap.size = g := ⟨_, rfl⟩
        rw [hg] at K_b ⊢
        replace hg := Box.mk hg
        by_cases h0 : m = 0
        · have h0' : ((m : Int) == 0) = true := by rw [beq_iff_eq]; omega
          have h30' : ¬ (30 : Int) < m := by omega
          have R_b := blk_row K_b.out
          have S_b := (Array.getElem?_eq_some_iff.1 K_b.out).1
          have hXv : blkV (manyD k m) = ([], 110) := blkV_zero (by rw [many_len]; exact h0)
          have hId := fun w (hb : Below w8.heap.size w8 w) => bid_any V _ (manyD k m) w (L.out.below hb) (many_ok (by omega))
          have hNm : nameB (manyD k m) = (zeroKey, 110) := nameB_err hXv (by decide)
          have hEnc := fun w (hb : Below w8.heap.size w8 w) => bencode_any V _ (manyD k m) w (L.out.below hb) (many_ok (by omega))
          simp only [hXv] at hEnc
          simp only [hNm] at hId
          have hbad := head_bad (k := k) hm50 (.inl h0)
          rw [if_pos h0] at hbad
          replace h0 := Box.mk h0
          replace hXv := Box.mk hXv
          replace hNm := Box.mk hNm
          unfold valE at hEnc
          unfold valNm at hId
          replace hEnc := Box.mk hEnc
          replace hId := Box.mk hId
          replace hbad := Box.mk hbad
          have R8 := Box.mk (Below.refl w8.heap.size w8)
          go_wp2_with fail
          refine (hEnc.out w8 R8.out).mono ?_
          rintro e w9 ⟨rfl, b9⟩
          clear R_b
          clear S_b
          replace K_k := Box.mk (keepBlock b9 K_k.out)
          replace K_b := Box.mk (keepBlock b9 K_b.out)
          replace L := Box.mk (L.out.below b9)
          replace BW := Box.mk (BW.out.trans (b9.mono BW.out.size))
          have R_b := blk_row K_b.out
          have S_b := (Array.getElem?_eq_some_iff.1 K_b.out).1
          replace R8 := Box.mk (since_next R8.out b9)
          go_wp2_with fail
          refine (hId.out w9 R8.out).mono ?_
          rintro e wa ⟨rfl, ba⟩
          clear R_b
          clear S_b
          replace K_k := Box.mk (keepBlock ba K_k.out)
          replace K_b := Box.mk (keepBlock ba K_b.out)
          replace L := Box.mk (L.out.below ba)
          replace BW := Box.mk (BW.out.trans (ba.mono BW.out.size))
          have R_k := key_row' K_k.out
          have S_k := (Array.getElem?_eq_some_iff.1 K_k.out).1
          replace R8 := Box.mk (since_next R8.out ba)
          go_wp2_with fail
          clear R_k
          clear S_k
          have hA : Below wa.heap.size wa (wa.alloc (.cells (keyC zeroKey).toArray 38)) := (Below.refl _ _).alloc (Nat.le_refl _) _
          replace K_k := Box.mk (keepBlock hA K_k.out)
          replace K_b := Box.mk (keepBlock hA K_b.out)
          replace L := Box.mk (L.out.below hA)
          replace BW := Box.mk (BW.out.trans (hA.mono BW.out.size))
          replace R8 := Box.mk (since_next R8.out hA)
          clear hA
          refine (rhead6_any k m _ (by omega)).mono ?_
          rintro e wc ⟨rfl, bc⟩
          replace K_k := Box.mk (keepBlock bc K_k.out)
          replace K_b := Box.mk (keepBlock bc K_b.out)
          replace L := Box.mk (L.out.below bc)
          replace BW := Box.mk (BW.out.trans (bc.mono BW.out.size))
          replace R8 := Box.mk (since_next R8.out bc)
          go_wp2_with fail
          have hdl : (k.val ++ (zeroKey.val ++ (le 4 0 ++ compactL m))).length ≤ 1000000 := by simp only [List.length_append, le_length, k.property, zeroKey.property, show (compactL m).length = 1 from by unfold compactL; rw [if_pos (by omega), le_length]]; omega
          refine (bdecode_any _ wc hdl).mono ?_
          rw [hbad.out]
          clear hdl
          rintro e wd ⟨rfl, _, bb⟩
          replace K_k := Box.mk (keepBlock bb K_k.out)
          replace K_b := Box.mk (keepBlock bb K_b.out)
          replace L := Box.mk (L.out.below bb)
          replace BW := Box.mk (BW.out.trans (bb.mono BW.out.size))
          replace R8 := Box.mk (since_next R8.out bb)
          have hA : Below wd.heap.size wd (wd.alloc (.cells (blkC zeroBlk).toArray 50)) := (Below.refl _ _).alloc (Nat.le_refl _) _
          replace K_k := Box.mk (keepBlock hA K_k.out)
          replace K_b := Box.mk (keepBlock hA K_b.out)
          replace L := Box.mk (L.out.below hA)
          replace BW := Box.mk (BW.out.trans (hA.mono BW.out.size))
          replace R8 := Box.mk (since_next R8.out hA)
          clear hA
          go_wp2_with fail
          refine (shown06_any _).mono ?_
          rintro e we ⟨rfl, be⟩
          replace K_k := Box.mk (keepBlock be K_k.out)
          replace K_b := Box.mk (keepBlock be K_b.out)
          replace L := Box.mk (L.out.below be)
          replace BW := Box.mk (BW.out.trans (be.mono BW.out.size))
          replace R8 := Box.mk (since_next R8.out be)
          go_wp2
          go_ret
          exact gives_bool (by first | rfl | (simp; try omega)) BW.out
        · have h0' : ((m : Int) == 0) = false := by rw [beq_eq_false_iff_ne]; omega
          by_cases h30 : 30 < m
          · have h30' : (30 : Int) < m := by omega
            have R_b := blk_row K_b.out
            have S_b := (Array.getElem?_eq_some_iff.1 K_b.out).1
            have hVl : 30 < V.txs.len := by have := L.out.vlen; rw [many_len] at this; omega
            have hEnc := fun w (hb : Below w8.heap.size w8 w) => bencode_many V w hVl
            have hId := fun w (hb : Below w8.heap.size w8 w) => bid_err V 51 (by decide) w (fun w' _ => bencode_many V w' hVl)
            have hbad := head_bad (k := k) hm50 (.inr h30)
            rw [if_neg (by omega)] at hbad
            unfold valE at hEnc
            unfold valNm at hId
            replace hEnc := Box.mk hEnc
            replace hId := Box.mk hId
            replace hbad := Box.mk hbad
            have R8 := Box.mk (Below.refl w8.heap.size w8)
            go_wp2_with fail
            refine (hEnc.out w8 R8.out).mono ?_
            rintro e w9 ⟨rfl, b9⟩
            clear R_b
            clear S_b
            replace K_k := Box.mk (keepBlock b9 K_k.out)
            replace K_b := Box.mk (keepBlock b9 K_b.out)
            replace L := Box.mk (L.out.below b9)
            replace BW := Box.mk (BW.out.trans (b9.mono BW.out.size))
            have R_b := blk_row K_b.out
            have S_b := (Array.getElem?_eq_some_iff.1 K_b.out).1
            replace R8 := Box.mk (since_next R8.out b9)
            go_wp2_with fail
            refine (hId.out w9 R8.out).mono ?_
            rintro e wa ⟨rfl, ba⟩
            clear R_b
            clear S_b
            replace K_k := Box.mk (keepBlock ba K_k.out)
            replace K_b := Box.mk (keepBlock ba K_b.out)
            replace L := Box.mk (L.out.below ba)
            replace BW := Box.mk (BW.out.trans (ba.mono BW.out.size))
            have R_k := key_row' K_k.out
            have S_k := (Array.getElem?_eq_some_iff.1 K_k.out).1
            replace R8 := Box.mk (since_next R8.out ba)
            go_wp2_with fail
            clear R_k
            clear S_k
            have hA : Below wa.heap.size wa (wa.alloc (.cells (keyC zeroKey).toArray 38)) := (Below.refl _ _).alloc (Nat.le_refl _) _
            replace K_k := Box.mk (keepBlock hA K_k.out)
            replace K_b := Box.mk (keepBlock hA K_b.out)
            replace L := Box.mk (L.out.below hA)
            replace BW := Box.mk (BW.out.trans (hA.mono BW.out.size))
            replace R8 := Box.mk (since_next R8.out hA)
            clear hA
            refine (rhead6_any k m _ (by omega)).mono ?_
            rintro e wc ⟨rfl, bc⟩
            replace K_k := Box.mk (keepBlock bc K_k.out)
            replace K_b := Box.mk (keepBlock bc K_b.out)
            replace L := Box.mk (L.out.below bc)
            replace BW := Box.mk (BW.out.trans (bc.mono BW.out.size))
            replace R8 := Box.mk (since_next R8.out bc)
            go_wp2_with fail
            have hdl : (k.val ++ (zeroKey.val ++ (le 4 0 ++ compactL m))).length ≤ 1000000 := by simp only [List.length_append, le_length, k.property, zeroKey.property, show (compactL m).length = 1 from by unfold compactL; rw [if_pos (by omega), le_length]]; omega
            refine (bdecode_any _ wc hdl).mono ?_
            rw [hbad.out]
            clear hdl
            rintro e wd ⟨rfl, _, bb⟩
            replace K_k := Box.mk (keepBlock bb K_k.out)
            replace K_b := Box.mk (keepBlock bb K_b.out)
            replace L := Box.mk (L.out.below bb)
            replace BW := Box.mk (BW.out.trans (bb.mono BW.out.size))
            replace R8 := Box.mk (since_next R8.out bb)
            have hA : Below wd.heap.size wd (wd.alloc (.cells (blkC zeroBlk).toArray 50)) := (Below.refl _ _).alloc (Nat.le_refl _) _
            replace K_k := Box.mk (keepBlock hA K_k.out)
            replace K_b := Box.mk (keepBlock hA K_b.out)
            replace L := Box.mk (L.out.below hA)
            replace BW := Box.mk (BW.out.trans (hA.mono BW.out.size))
            replace R8 := Box.mk (since_next R8.out hA)
            clear hA
            go_wp2_with fail
            refine (shown06_any _).mono ?_
            rintro e we ⟨rfl, be⟩
            replace K_k := Box.mk (keepBlock be K_k.out)
            replace K_b := Box.mk (keepBlock be K_b.out)
            replace L := Box.mk (L.out.below be)
            replace BW := Box.mk (BW.out.trans (be.mono BW.out.size))
            replace R8 := Box.mk (since_next R8.out be)
            go_wp2
            go_ret
            exact gives_bool (by first | rfl | (simp; try omega)) BW.out
          · have h30' : ¬ (30 : Int) < m := by omega
            have R_b := blk_row K_b.out
            have S_b := (Array.getElem?_eq_some_iff.1 K_b.out).1
            obtain ⟨bs, hXv, hbl⟩ := many_V (k := k) (m := m) (by omega) (by omega)
            obtain ⟨kk, hNm⟩ : ∃ kk, nameB (manyD k m) = (kk, 0) := ⟨_, nameB_ok hXv⟩
            have hId := fun w (hb : Below w8.heap.size w8 w) => bid_any V _ (manyD k m) w (L.out.below hb) (many_ok (by omega))
            have hEnc := fun w (hb : Below w8.heap.size w8 w) => bencode_any V _ (manyD k m) w (L.out.below hb) (many_ok (by omega))
            simp only [hXv] at hEnc
            simp only [hNm] at hId
            replace hXv := Box.mk hXv
            replace hNm := Box.mk hNm
            unfold valE at hEnc
            unfold valNm at hId
            replace hEnc := Box.mk hEnc
            replace hId := Box.mk hId
            have R8 := Box.mk (Below.refl w8.heap.size w8)
            go_wp2_with fail
            refine (hEnc.out w8 R8.out).mono ?_
            rintro e w9 ⟨rfl, b9⟩
            clear R_b
            clear S_b
            replace K_k := Box.mk (keepBlock b9 K_k.out)
            replace K_b := Box.mk (keepBlock b9 K_b.out)
            replace L := Box.mk (L.out.below b9)
            replace BW := Box.mk (BW.out.trans (b9.mono BW.out.size))
            have R_b := blk_row K_b.out
            have S_b := (Array.getElem?_eq_some_iff.1 K_b.out).1
            replace R8 := Box.mk (since_next R8.out b9)
            go_wp2_with fail
            refine (hId.out w9 R8.out).mono ?_
            rintro e wa ⟨rfl, ba⟩
            clear R_b
            clear S_b
            replace K_k := Box.mk (keepBlock ba K_k.out)
            replace K_b := Box.mk (keepBlock ba K_b.out)
            replace L := Box.mk (L.out.below ba)
            replace BW := Box.mk (BW.out.trans (ba.mono BW.out.size))
            have R_k := key_row' K_k.out
            have S_k := (Array.getElem?_eq_some_iff.1 K_k.out).1
            replace R8 := Box.mk (since_next R8.out ba)
            go_wp2_with fail
            clear R_k
            clear S_k
            have hA : Below wa.heap.size wa (wa.alloc (.cells (keyC kk).toArray 38)) := (Below.refl _ _).alloc (Nat.le_refl _) _
            replace K_k := Box.mk (keepBlock hA K_k.out)
            replace K_b := Box.mk (keepBlock hA K_b.out)
            replace L := Box.mk (L.out.below hA)
            replace BW := Box.mk (BW.out.trans (hA.mono BW.out.size))
            replace R8 := Box.mk (since_next R8.out hA)
            clear hA
            refine (rhead6_any k m _ (by omega)).mono ?_
            rintro e wc ⟨rfl, bc⟩
            replace K_k := Box.mk (keepBlock bc K_k.out)
            replace K_b := Box.mk (keepBlock bc K_b.out)
            replace L := Box.mk (L.out.below bc)
            replace BW := Box.mk (BW.out.trans (bc.mono BW.out.size))
            replace R8 := Box.mk (since_next R8.out bc)
            go_wp2_with fail
            obtain ⟨hd, hhd⟩ : ∃ l, k.val ++ (zeroKey.val ++ (le 4 0 ++ compactL m)) = l := ⟨_, rfl⟩
            have hdl : hd.length ≤ 1000000 := by rw [← hhd]; simp only [List.length_append, le_length, k.property, zeroKey.property, show (compactL m).length = 1 from by unfold compactL; rw [if_pos (by omega), le_length]]; omega
            rw [hhd]
            replace hhd := Box.mk hhd
            refine (bdecode_any hd wc hdl).mono ?_
            intro e wd h
            obtain ⟨v', qs', rfl, La, bb⟩ := h.any
            clear h hdl
            obtain ⟨x', hx'⟩ : ∃ x, blkXo (blkRd hd) = x := ⟨_, rfl⟩
            rw [hx']
            replace hx' := Box.mk hx'
            replace La := Box.mk La
            replace K_k := Box.mk (keepBlock bb K_k.out)
            replace K_b := Box.mk (keepBlock bb K_b.out)
            replace L := Box.mk (L.out.below bb)
            replace BW := Box.mk (BW.out.trans (bb.mono BW.out.size))
            replace R8 := Box.mk (since_next R8.out bb)
            have hA : Below wd.heap.size wd (wd.alloc (.cells (blkC v').toArray 50)) := (Below.refl _ _).alloc (Nat.le_refl _) _
            replace K_k := Box.mk (keepBlock hA K_k.out)
            replace K_b := Box.mk (keepBlock hA K_b.out)
            replace L := Box.mk (L.out.below hA)
            replace BW := Box.mk (BW.out.trans (hA.mono BW.out.size))
            replace R8 := Box.mk (since_next R8.out hA)
            clear hA
            have hbl' : ((bs.length : Nat) : Int) = ((69 + 16 * m : Nat) : Int) := by rw [hbl]
            skip
            go_wp2_with fail
            refine (shown06_any _).mono ?_
            rintro e we ⟨rfl, be⟩
            replace K_k := Box.mk (keepBlock be K_k.out)
            replace K_b := Box.mk (keepBlock be K_b.out)
            replace L := Box.mk (L.out.below be)
            replace BW := Box.mk (BW.out.trans (be.mono BW.out.size))
            replace R8 := Box.mk (since_next R8.out be)
            go_wp2
            go_ret
            exact gives_bool (by first | rfl | (simp; try omega)) BW.out
      exact AllReadyZ.nil
    exact AllReadyZ.nil
  exact AllReadyZ.nil
end Go.Proofs.Ytahkiabpjfcfdaa
