/- Layer 5: which transaction any bytes are, or begin by, is the document's, or its error. (printed by mktxdec.py) -/
import Derived.Test.YtfnlgihkofkibaaTxAny
namespace Go.Proofs.Ytfnlgihkofkibaa
open Go.RowKit
set_option linter.unusedVariables false
set_option linter.unusedSimpArgs false
set_option maxRecDepth 100000
attribute [local irreducible] Int.lt Int.le
attribute [local go_sem] sB_append
attribute [local go_sem ↓] load_key store_key alloc_key build0_key eq_key load_point store_point alloc_point load_out store_out alloc_out load_tx store_tx alloc_tx build0_tx
attribute [local go_sem] rowOf_drew rowOf_alloc_old rowOf_alloc_new canPut_drew canPut_alloc_old canPut_alloc_new setCells_alloc_new

set_option maxHeartbeats 4000000 in
theorem txDecodes_walk (s : List UInt8) (W : World) : Calls Try.prog 5 #[.string (sB s)] W (LawEnd W) := by
  by_cases hs : (8192 : Int) < s.length
  · go_enter Try.func5, Try.ntmps5
    go_wp2_with fail
    refine (shown05 _).mono ?_
    rintro e w1 ⟨rfl, b1⟩
    go_wp2
    go_ret
    exact gives_bool rfl b1
  · have hl : s.length ≤ 1000000 := by omega
    replace hl := Box.mk hl
    go_enter Try.func5, Try.ntmps5
    go_wp2_with fail
    refine (shown05 _).mono ?_
    rintro e w1 ⟨rfl, b1⟩
    have BW := Box.mk b1
    clear b1
    obtain ⟨o, ho⟩ : ∃ o, decR s = o := ⟨_, rfl⟩
    obtain ⟨p, hp⟩ : ∃ o, txR s = o := ⟨_, rfl⟩
    have fo := decD_few s
    have fp := rdD_few s
    rw [ho] at fo
    rw [hp] at fp
    replace fo := Box.mk fo
    replace fp := Box.mk fp
    go_wp2_with fail
    refine (decode_any s w1 hl.out).mono ?_
    rw [ho]
    intro e w2 h
    obtain ⟨ta, rfl, L_ta, bb⟩ := h.any
    clear h
    replace L_ta := Box.mk L_ta
    replace BW := Box.mk (BW.out.trans (bb.mono BW.out.size))
    clear bb
    go_wp2_with fail
    have hA : Below w2.heap.size w2 (w2.alloc (.cells (txC ta).toArray 29)) := (Below.refl _ _).alloc (Nat.le_refl _) _
    have hKn := heap_alloc_new w2 (.cells (txC ta).toArray 29)
    replace L_ta := Box.mk (L_ta.out.below hA)
    replace BW := Box.mk (BW.out.trans (hA.mono BW.out.size))
    have K_ta := Box.mk hKn
    clear hKn
    have hsz_w3 : (w2.alloc (.cells (txC ta).toArray 29)).heap.size = w2.heap.size + 1 := by simp
    clear hA
    generalize w2.alloc (.cells (txC ta).toArray 29) = w3 at *
    replace hsz_w3 := Box.mk hsz_w3
    go_wp2_with fail
    refine (refDecode_any s w3 hl.out).mono ?_
    rw [ho]
    intro e w4 h
    obtain ⟨tb, rfl, L_tb, bb⟩ := h.any
    clear h
    replace L_tb := Box.mk L_tb
    replace K_ta := Box.mk (keepBlock bb K_ta.out)
    replace L_ta := Box.mk (L_ta.out.below bb)
    replace BW := Box.mk (BW.out.trans (bb.mono BW.out.size))
    clear bb
    go_wp2_with fail
    have hA : Below w4.heap.size w4 (w4.alloc (.cells (txC tb).toArray 29)) := (Below.refl _ _).alloc (Nat.le_refl _) _
    have hKn := heap_alloc_new w4 (.cells (txC tb).toArray 29)
    replace K_ta := Box.mk (keepBlock hA K_ta.out)
    replace L_ta := Box.mk (L_ta.out.below hA)
    replace L_tb := Box.mk (L_tb.out.below hA)
    replace BW := Box.mk (BW.out.trans (hA.mono BW.out.size))
    have K_tb := Box.mk hKn
    clear hKn
    have hsz_w5 : (w4.alloc (.cells (txC tb).toArray 29)).heap.size = w4.heap.size + 1 := by simp
    clear hA
    generalize w4.alloc (.cells (txC tb).toArray 29) = w5 at *
    replace hsz_w5 := Box.mk hsz_w5
    go_wp2_with fail
    refine (txRead_any s w5 hl.out).mono ?_
    rw [hp]
    intro e w6 h
    obtain ⟨tc, rfl, L_tc, bb⟩ := h.any
    clear h
    unfold valR
    replace L_tc := Box.mk L_tc
    replace K_ta := Box.mk (keepBlock bb K_ta.out)
    replace K_tb := Box.mk (keepBlock bb K_tb.out)
    replace L_ta := Box.mk (L_ta.out.below bb)
    replace L_tb := Box.mk (L_tb.out.below bb)
    replace BW := Box.mk (BW.out.trans (bb.mono BW.out.size))
    clear bb
    go_wp2_with fail
    have hA : Below w6.heap.size w6 (w6.alloc (.cells (txC tc).toArray 29)) := (Below.refl _ _).alloc (Nat.le_refl _) _
    have hKn := heap_alloc_new w6 (.cells (txC tc).toArray 29)
    replace K_ta := Box.mk (keepBlock hA K_ta.out)
    replace K_tb := Box.mk (keepBlock hA K_tb.out)
    replace L_ta := Box.mk (L_ta.out.below hA)
    replace L_tb := Box.mk (L_tb.out.below hA)
    replace L_tc := Box.mk (L_tc.out.below hA)
    replace BW := Box.mk (BW.out.trans (hA.mono BW.out.size))
    have K_tc := Box.mk hKn
    clear hKn
    have hsz_w7 : (w6.alloc (.cells (txC tc).toArray 29)).heap.size = w6.heap.size + 1 := by simp
    clear hA
    generalize w6.alloc (.cells (txC tc).toArray 29) = w7 at *
    replace hsz_w7 := Box.mk hsz_w7
    go_wp2_with fail
    refine (refTxRead_any s w7 hl.out).mono ?_
    rw [hp]
    intro e w8 h
    obtain ⟨td, rfl, L_td, bb⟩ := h.any
    clear h
    unfold valR
    replace L_td := Box.mk L_td
    replace K_ta := Box.mk (keepBlock bb K_ta.out)
    replace K_tb := Box.mk (keepBlock bb K_tb.out)
    replace K_tc := Box.mk (keepBlock bb K_tc.out)
    replace L_ta := Box.mk (L_ta.out.below bb)
    replace L_tb := Box.mk (L_tb.out.below bb)
    replace L_tc := Box.mk (L_tc.out.below bb)
    replace BW := Box.mk (BW.out.trans (bb.mono BW.out.size))
    have R_ta := tx_row K_ta.out
    have S_ta := (Array.getElem?_eq_some_iff.1 K_ta.out).1
    have R_tb := tx_row K_tb.out
    have S_tb := (Array.getElem?_eq_some_iff.1 K_tb.out).1
    have R_tc := tx_row K_tc.out
    have S_tc := (Array.getElem?_eq_some_iff.1 K_tc.out).1
    clear bb
    have rn := tx_row (heap_alloc_new w8 (.cells (txC td).toArray 29))
    have sn : w8.heap.size < (w8.alloc (.cells (txC td).toArray 29)).heap.size := by simp
    go_wp2_with fail
    clear rn sn
    have hA : Below w8.heap.size w8 (w8.alloc (.cells (txC td).toArray 29)) := (Below.refl _ _).alloc (Nat.le_refl _) _
    have hKn := heap_alloc_new w8 (.cells (txC td).toArray 29)
    clear R_tb
    clear S_tb
    clear R_tc
    clear S_tc
    clear R_ta
    clear S_ta
    replace K_ta := Box.mk (keepBlock hA K_ta.out)
    replace K_tb := Box.mk (keepBlock hA K_tb.out)
    replace K_tc := Box.mk (keepBlock hA K_tc.out)
    replace L_ta := Box.mk (L_ta.out.below hA)
    replace L_tb := Box.mk (L_tb.out.below hA)
    replace L_tc := Box.mk (L_tc.out.below hA)
    replace L_td := Box.mk (L_td.out.below hA)
    replace BW := Box.mk (BW.out.trans (hA.mono BW.out.size))
    have K_td := Box.mk hKn
    clear hKn
    have hsz_w9 : (w8.alloc (.cells (txC td).toArray 29)).heap.size = w8.heap.size + 1 := by simp
    clear hA
    generalize w8.alloc (.cells (txC td).toArray 29) = w9 at *
    replace hsz_w9 := Box.mk hsz_w9
    have R_ta := tx_row K_ta.out
    have S_ta := (Array.getElem?_eq_some_iff.1 K_ta.out).1
    have R_tb := tx_row K_tb.out
    have S_tb := (Array.getElem?_eq_some_iff.1 K_tb.out).1
    have R_tc := tx_row K_tc.out
    have S_tc := (Array.getElem?_eq_some_iff.1 K_tc.out).1
    have R_td := tx_row K_td.out
    have S_td := (Array.getElem?_eq_some_iff.1 K_td.out).1
    refine (refSame_any ta tb (decD o) (decD o) w9 L_ta.out L_tb.out (L_ta.out.few fo.out)).mono ?_
    rintro e wa ⟨rfl, bb⟩
    rw [sameB_self]
    clear R_td
    clear S_td
    clear R_tb
    clear S_tb
    clear R_tc
    clear S_tc
    clear R_ta
    clear S_ta
    replace K_ta := Box.mk (keepBlock bb K_ta.out)
    replace K_tb := Box.mk (keepBlock bb K_tb.out)
    replace K_tc := Box.mk (keepBlock bb K_tc.out)
    replace K_td := Box.mk (keepBlock bb K_td.out)
    replace L_ta := Box.mk (L_ta.out.below bb)
    replace L_tb := Box.mk (L_tb.out.below bb)
    replace L_tc := Box.mk (L_tc.out.below bb)
    replace L_td := Box.mk (L_td.out.below bb)
    replace BW := Box.mk (BW.out.trans (bb.mono BW.out.size))
    have R_ta := tx_row K_ta.out
    have S_ta := (Array.getElem?_eq_some_iff.1 K_ta.out).1
    have R_tb := tx_row K_tb.out
    have S_tb := (Array.getElem?_eq_some_iff.1 K_tb.out).1
    have R_tc := tx_row K_tc.out
    have S_tc := (Array.getElem?_eq_some_iff.1 K_tc.out).1
    have R_td := tx_row K_td.out
    have S_td := (Array.getElem?_eq_some_iff.1 K_td.out).1
    clear bb
    go_wp2_with fail
    refine (refSame_any tc td (rdD p) (rdD p) wa L_tc.out L_td.out (L_tc.out.few fp.out)).mono ?_
    rintro e wb ⟨rfl, bb⟩
    rw [sameB_self]
    clear R_td
    clear S_td
    clear R_tb
    clear S_tb
    clear R_tc
    clear S_tc
    clear R_ta
    clear S_ta
    replace K_ta := Box.mk (keepBlock bb K_ta.out)
    replace K_tb := Box.mk (keepBlock bb K_tb.out)
    replace K_tc := Box.mk (keepBlock bb K_tc.out)
    replace K_td := Box.mk (keepBlock bb K_td.out)
    replace L_ta := Box.mk (L_ta.out.below bb)
    replace L_tb := Box.mk (L_tb.out.below bb)
    replace L_tc := Box.mk (L_tc.out.below bb)
    replace L_td := Box.mk (L_td.out.below bb)
    replace BW := Box.mk (BW.out.trans (bb.mono BW.out.size))
    go_wp2
    go_ret
    exact gives_bool rfl BW.out

end Go.Proofs.Ytfnlgihkofkibaa
