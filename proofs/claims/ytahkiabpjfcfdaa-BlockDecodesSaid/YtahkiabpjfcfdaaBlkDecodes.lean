/- Layer 6: which block any bytes are is the document's, or its error. (printed by mkblklaws.py) -/
import Derived.Test.YtahkiabpjfcfdaaBlkAny
namespace Go.Proofs.Ytahkiabpjfcfdaa
open Go.RowKit
set_option linter.unusedVariables false
set_option linter.unusedSimpArgs false
set_option maxRecDepth 100000
attribute [local irreducible] Int.lt Int.le
attribute [local go_sem] sB_append
attribute [local go_sem ↓] load_key store_key alloc_key build0_key eq_key load_tx store_tx alloc_tx build0_tx load_blk store_blk alloc_blk build0_blk
attribute [local go_sem] rowOf_drew rowOf_alloc_old rowOf_alloc_new canPut_drew canPut_alloc_old canPut_alloc_new setCells_alloc_new

set_option maxHeartbeats 8000000 in
theorem blockDecodes_walk (s : List UInt8) (W : World) : Calls Try.prog 10 #[.string (sB s)] W (Gives (.bool true) W) := by
  by_cases hs : (8192 : Int) < s.length
  · go_enter Try.func10, Try.ntmps10
    go_wp2_with fail
    refine (shown06_any _).mono ?_
    rintro e w1 ⟨rfl, b1⟩
    go_wp2
    go_ret
    exact gives_bool rfl b1
  · have hl : s.length ≤ 1000000 := by omega
    replace hl := Box.mk hl
    go_enter Try.func10, Try.ntmps10
    go_wp2_with fail
    refine (shown06_any _).mono ?_
    rintro e w1 ⟨rfl, b1⟩
    have BW := Box.mk b1
    clear b1
    obtain ⟨o, ho⟩ : ∃ o, blkRd s = o := ⟨_, rfl⟩
    have hok := blkDo_ok s
    rw [ho] at hok
    replace hok := Box.mk hok
    have hdec := Box.mk (bdecode_any s w1 hl.out)
    have hdec2 := fun w => rdecode6_any s w hl.out
    rw [ho] at hdec hdec2
    replace hdec2 := Box.mk hdec2
    go_wp2_with fail
    refine hdec.out.mono ?_
    intro e w2 h
    have hne := Box.mk h.errne
    obtain ⟨v, qs, rfl, La, bb⟩ := h.any
    clear h
    have hV := fun hx => blkV_do ho hx hne.out
    obtain ⟨D, hD⟩ : ∃ D, blkDo o = D := ⟨_, rfl⟩
    obtain ⟨x, hX⟩ : ∃ x, blkXo o = x := ⟨_, rfl⟩
    rw [hD] at La hV
    rw [hD] at hok
    rw [hX] at hV
    rw [hX]
    replace hV := Box.mk hV
    replace ho := Box.mk ho
    replace La := Box.mk La
    replace BW := Box.mk (BW.out.trans (bb.mono BW.out.size))
    clear bb
    go_wp2_with fail
    have hA : Below w2.heap.size w2 (w2.alloc (.cells (blkC v).toArray 50)) := (Below.refl _ _).alloc (Nat.le_refl _) _
    have hKn := heap_alloc_new w2 (.cells (blkC v).toArray 50)
    replace La := Box.mk (La.out.below hA)
    replace BW := Box.mk (BW.out.trans (hA.mono BW.out.size))
    have K_a := Box.mk hKn
    clear hKn
    have hsz_w3 : (w2.alloc (.cells (blkC v).toArray 50)).heap.size = w2.heap.size + 1 := by simp
    clear hA
    generalize w2.alloc (.cells (blkC v).toArray 50) = w3 at *
    replace hsz_w3 := Box.mk hsz_w3
    refine (hdec2.out w3).mono ?_
    intro e w4 h
    obtain ⟨v', qs', rfl, Lb, bb⟩ := h.any
    clear h
    rw [hD] at Lb
    rw [hX]
    replace Lb := Box.mk Lb
    replace hD := Box.mk hD
    replace hX := Box.mk hX
    replace K_a := Box.mk (keepBlock bb K_a.out)
    replace La := Box.mk (La.out.below bb)
    replace BW := Box.mk (BW.out.trans (bb.mono BW.out.size))
    have R_a := blk_row K_a.out
    have S_a := (Array.getElem?_eq_some_iff.1 K_a.out).1
    clear bb
    have rn := blk_row (heap_alloc_new w4 (.cells (blkC v').toArray 50))
    have sn : w4.heap.size < (w4.alloc (.cells (blkC v').toArray 50)).heap.size := by simp
    go_wp2_with fail
    clear rn sn
    have hA : Below w4.heap.size w4 (w4.alloc (.cells (blkC v').toArray 50)) := (Below.refl _ _).alloc (Nat.le_refl _) _
    have hKn := heap_alloc_new w4 (.cells (blkC v').toArray 50)
    clear R_a
    clear S_a
    replace K_a := Box.mk (keepBlock hA K_a.out)
    replace La := Box.mk (La.out.below hA)
    replace Lb := Box.mk (Lb.out.below hA)
    replace BW := Box.mk (BW.out.trans (hA.mono BW.out.size))
    have K_b := Box.mk hKn
    clear hKn
    have hsz_w5 : (w4.alloc (.cells (blkC v').toArray 50)).heap.size = w4.heap.size + 1 := by simp
    clear hA
    generalize w4.alloc (.cells (blkC v').toArray 50) = w5 at *
    replace hsz_w5 := Box.mk hsz_w5
    refine (rsame6_any v v' qs qs' D w5 La.out Lb.out hok.out).mono ?_
    rintro e w6 ⟨rfl, bb⟩
    replace K_a := Box.mk (keepBlock bb K_a.out)
    replace K_b := Box.mk (keepBlock bb K_b.out)
    replace La := Box.mk (La.out.below bb)
    replace Lb := Box.mk (Lb.out.below bb)
    replace BW := Box.mk (BW.out.trans (bb.mono BW.out.size))
    have R_a := blk_row K_a.out
    have S_a := (Array.getElem?_eq_some_iff.1 K_a.out).1
    have R_b := blk_row K_b.out
    have S_b := (Array.getElem?_eq_some_iff.1 K_b.out).1
    clear bb
    by_cases hx : x = 0
    · have hVs := hV.out hx
      subst hx
      have henc := bencode_any v qs D w6 La.out hok.out
      rw [hVs] at henc
      unfold valE at henc
      replace henc := Box.mk henc
      replace hVs := Box.mk hVs
      go_wp2_with fail
      refine henc.out.mono ?_
      rintro e w7 ⟨rfl, bb⟩
      have BF := BW.out.trans (bb.mono BW.out.size)
      go_wp2
      go_ret
      exact gives_bool (by simp) BF
    · have hx2 : (x != 0) = true := by simpa using hx
      replace hx := Box.mk hx
      go_wp2
      go_ret
      exact gives_bool rfl BW.out

end Go.Proofs.Ytahkiabpjfcfdaa
