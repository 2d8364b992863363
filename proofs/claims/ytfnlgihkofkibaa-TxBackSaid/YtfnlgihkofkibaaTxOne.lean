/- Layer 5: bytes that are decoded are what the transaction is encoded to. (printed by mktxdec.py) -/
import Derived.Test.YtfnlgihkofkibaaTxAny
namespace Go.Proofs.Ytfnlgihkofkibaa
open Go.RowKit
set_option linter.unusedVariables false
set_option linter.unusedSimpArgs false
set_option maxRecDepth 100000
attribute [local irreducible] Int.lt Int.le
attribute [local go_sem] sB_append
attribute [local go_sem ↓] load_key store_key alloc_key build0_key eq_key load_point store_point alloc_point load_out store_out alloc_out load_tx store_tx alloc_tx build0_tx
attribute [local go_sem] rowOf_drew rowOf_alloc_old rowOf_alloc_new canPut_drew canPut_alloc_old canPut_alloc_new setCells_alloc_new

set_option maxHeartbeats 4000000 in
theorem txOne_walk (s : List UInt8) (W : World) : Calls Try.prog 7 #[.string (sB s)] W (LawEnd W) := by
  by_cases hs : (8192 : Int) < s.length
  · go_enter Try.func7, Try.ntmps7
    go_wp2_with fail
    refine (shown05 _).mono ?_
    rintro e w1 ⟨rfl, b1⟩
    go_wp2
    go_ret
    exact gives_bool rfl b1
  · have hl : s.length ≤ 1000000 := by omega
    replace hl := Box.mk hl
    go_enter Try.func7, Try.ntmps7
    go_wp2_with fail
    refine (shown05 _).mono ?_
    rintro e w1 ⟨rfl, b1⟩
    have BW := Box.mk b1
    clear b1
    have fo := decD_few s
    replace fo := Box.mk fo
    go_wp2_with fail
    refine (decode_any s w1 hl.out).mono ?_
    intro e w2 h
    obtain ⟨t, rfl, L_t, bb⟩ := h.any
    clear h
    replace L_t := Box.mk L_t
    replace BW := Box.mk (BW.out.trans (bb.mono BW.out.size))
    clear bb
    have rn := tx_row (heap_alloc_new w2 (.cells (txC t).toArray 29))
    have kn := heap_alloc_new w2 (.cells (txC t).toArray 29)
    have sn : w2.heap.size < (w2.alloc (.cells (txC t).toArray 29)).heap.size := by simp
    obtain ⟨n0, n1, n2, n3, n4, n5, n6, n7⟩ := tx_all kn
    replace kn := Box.mk kn
    clear n1 n2 n3 n6 n7
    rcases hd : decR s with x | d
    · have hx := decR_errne hd
      obtain ⟨e1, e2⟩ := decX_err hd
      rw [hd] at e1
      replace hd := Box.mk hd
      rw [e1]
      have L2 := Box.mk (by have := L_t.out; rw [e2] at this; exact this)
      replace e1 := Box.mk e1
      replace e2 := Box.mk e2
      clear n4 n5
      go_wp2_with fail
      clear rn sn
      replace L2 := Box.mk (L2.out.below ((Below.refl _ _).alloc (Nat.le_refl _) (.cells (txC t).toArray 29)))
      have B3 := BW.out.alloc BW.out.size (.cells (txC t).toArray 29)
      generalize w2.alloc (.cells (txC t).toArray 29) = w3 at *
      refine (refSame_any t zeroTx zeroD zeroD w3 L2.out (TxO.zero 0 w3).txl (L2.out.few rfl)).mono ?_
      rintro e w4 ⟨rfl, b4⟩
      rw [sameB_self]
      go_wp2
      go_ret
      exact gives_bool rfl (B3.trans (b4.mono B3.size))
    · obtain ⟨e1, e2⟩ := decX_ok hd
      obtain ⟨hsE, hok, hw⟩ := decR_one hd
      rw [hd] at e1
      replace hd := Box.mk hd
      rw [e1]
      have L2 := Box.mk (by have := L_t.out; rw [e2] at this; exact this)
      replace e1 := Box.mk e1
      replace e2 := Box.mk e2
      have key : (((t.nulls.len : Int) == 0) = true ∧ (t.anchor == zeroKey) = true) ∨ ((t.nulls.len : Int) == 0) = false := by
        by_cases h0 : d.nulls.length = 0
        · exact .inl ⟨by have := L2.out.nulls.1; simp; omega, by rw [L2.out.anchor, hw.2 h0]; simp⟩
        · exact .inr (by have := L2.out.nulls.1; simp; omega)
      have hE := encV_well hw
      rw [← hsE] at hE
      replace hE := Box.mk hE
      replace hw := Box.mk hw
      replace hok := Box.mk hok
      replace hsE := Box.mk hsE
      replace L_t := Box.mk trivial
      have L3 := Box.mk (L2.out.below ((Below.refl _ _).alloc (Nat.le_refl _) (.cells (txC t).toArray 29)))
      have B3 := BW.out.alloc BW.out.size (.cells (txC t).toArray 29)
      rcases key with ⟨k1, k2⟩ | k1
      case' inr => have k2 := trivial
      all_goals
        go_wp2_with fail
        clear rn sn n0 n4 n5 k1 k2
        generalize w2.alloc (.cells (txC t).toArray 29) = w3 at *
        refine (encode_any t d w3 L3.out).mono ?_
        rintro e w4 ⟨rfl, b4⟩
        rw [hE.out]
        unfold valE
        go_wp2
        go_ret
        exact gives_bool rfl (B3.trans (b4.mono B3.size))

end Go.Proofs.Ytfnlgihkofkibaa
