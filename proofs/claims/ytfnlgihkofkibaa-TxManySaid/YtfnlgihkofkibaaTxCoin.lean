/- Layer 5: a coinbase has one input, of nothing; with one more, or of something, it is none. -/
import Derived.Test.YtfnlgihkofkibaaTxLaws
import Derived.Test.YtfnlgihkofkibaaBase
import Derived.Test.YtfnlgihkofkibaaPtBuild
namespace Go.Proofs.Ytfnlgihkofkibaa
open Go.RowKit
set_option linter.unusedVariables false
set_option linter.unusedSimpArgs false
set_option maxRecDepth 100000
attribute [local irreducible] Int.lt Int.le
attribute [local go_sem ↓] load_key store_key alloc_key build0_key eq_key load_point store_point alloc_point build0_point one_point two_point build_ptidx load_out store_out alloc_out load_tx store_tx alloc_tx build0_tx
attribute [local go_sem] rowOf_drew rowOf_alloc_old rowOf_alloc_new canPut_drew canPut_alloc_old canPut_alloc_new setCells_alloc_new

/-- Is it a coinbase? -/
def cbB : List PointV → Bool
  | [p] => p.tx == zeroKey
  | _ => false
set_option maxHeartbeats 1000000 in
theorem coinbase_any (t : TxV) (ins : List PointV) (W : World) (h : SL pointC 33 W t.ins.a t.ins.len t.ins.cap ins) : Calls Try.prog 14 #[.agg (txC t).toArray] W (Gives (.bool (cbB ins)) W) := by
  have hB0 : Below W.heap.size W (W.alloc (.cells (txC t).toArray 29)) := (Below.refl _ _).alloc (Nat.le_refl _) _
  have hl := h.1
  have hcap := h.2.1
  match ins, hl with
  | [], hl =>
    replace hl : t.ins.len = 0 := hl
    replace h := Box.mk h
    go_enter Try.func14, Try.ntmps14
    go_wp2
    go_ret
    exact gives_bool rfl hB0
  | [p], hl =>
    replace hl : t.ins.len = 1 := hl
    obtain ⟨b, o, ha, hb, hr⟩ := SL.elem pointC_length h (i := 0) (x := p) rfl
    rw [Nat.zero_mul, Nat.add_zero] at hr
    obtain ⟨c1, c2⟩ := pt_row hr
    replace h := Box.mk h
    replace hr := Box.mk hr
    replace c2 := Box.mk c2
    go_enter Try.func14, Try.ntmps14
    go_wp2
    go_ret
    exact gives_bool rfl hB0
  | p :: q :: r, hl =>
    have hl' : ¬ ((t.ins.len : Int) = 1) := by rw [hl]; simp; omega
    replace h := Box.mk h
    replace hl := Box.mk hl
    go_enter Try.func14, Try.ntmps14
    go_wp2
    go_ret
    exact gives_bool rfl hB0

theorem tx_row38 {w : World} {b : Nat} {t : TxV} (hw : w.heap[b]? = some (.cells (txC t).toArray 29 (0, 0))) : rowOf w b 0 38 = some (txC t) := by
  rw [rowOf_block hw 0 38 (by simp [txC_length])]
  congr 1; simp
  exact List.take_of_length_le (by rw [txC_length]; exact Nat.le_refl _)
theorem pt_row33 {w : World} {b : Nat} {p : PointV} (hw : w.heap[b]? = some (.cells (pointC p).toArray 36 (0, 0))) : rowOf w b 0 33 = some (pointC p) := by
  rw [rowOf_block hw 0 33 (by simp [pointC_length])]
  congr 1; simp
  exact List.take_of_length_le (by rw [pointC_length]; exact Nat.le_refl _)
theorem heap_setCell_tx {w : World} {b : Nat} {t : TxV} (hw : w.heap[b]? = some (.cells (txC t).toArray 29 (0, 0))) (a : Option Addr) (l c : Nat) :
    (w.setCell ⟨b, 1, none⟩ (.slice a l c)).heap[b]? = some (.cells (txC { t with ins := ⟨a, l, c⟩ }).toArray 29 (0, 0)) := by
  simp only [World.setCell, Array.getElem?_modify, if_true, hw, Option.map_some, List.setIfInBounds_toArray, txC_set1]
  rfl

set_option maxHeartbeats 4000000 in
theorem txCoinbase_walk (t : TxV) (d : TxD) (p : PointV) (W : World) (h : TxL W t d) : Calls Try.prog 4 #[.agg (txC t).toArray, .agg (pointC p).toArray] W (LawEnd W) := by
  have hB0 : Below W.heap.size W ((W.alloc (.cells (txC t).toArray 29)).alloc (.cells (pointC p).toArray 36)) := ((Below.refl _ _).alloc (Nat.le_refl _) _).alloc (by simp) _
  have hH0 : ((W.alloc (.cells (txC t).toArray 29)).alloc (.cells (pointC p).toArray 36)).heap[W.heap.size]? = some (.cells (txC t).toArray 29 (0, 0)) := by
    rw [Below.heap_alloc _ _ _ (by simp)]; exact heap_alloc_new W _
  have hP0 : ((W.alloc (.cells (txC t).toArray 29)).alloc (.cells (pointC p).toArray 36)).heap[W.heap.size + 1]? = some (.cells (pointC p).toArray 36 (0, 0)) := by
    have := heap_alloc_new (W.alloc (.cells (txC t).toArray 29)) (.cells (pointC p).toArray 36)
    simpa using this
  have hs0 : ((W.alloc (.cells (txC t).toArray 29)).alloc (.cells (pointC p).toArray 36)).heap.size = W.heap.size + 1 + 1 := by simp
  have hR0 := tx_row38 hH0
  replace h := Box.mk h
  go_enter Try.func4, Try.ntmps4
  cases hh : heavyB t
  · go_wp2_with fail
    generalize (W.alloc (.cells (txC t).toArray 29)).alloc (.cells (pointC p).toArray 36) = w0 at *
    refine (heavy_any t _).mono ?_
    rintro e w1 ⟨rfl, hb1⟩
    rw [hh]
    have W1 := hB0.trans (hb1.mono hB0.size)
    have H1 : w1.heap[W.heap.size]? = some (.cells (txC t).toArray 29 (0, 0)) := by rw [hb1.block _ (by omega)]; exact hH0
    have P1 : w1.heap[W.heap.size + 1]? = some (.cells (pointC p).toArray 36 (0, 0)) := by rw [hb1.block _ (by omega)]; exact hP0
    clear hb1 hH0 hs0 hP0 hR0
    go_wp2_with fail
    refine (shown05 w1).mono ?_
    rintro e w2 ⟨rfl, hb2⟩
    have q1 := (Array.getElem?_eq_some_iff.1 H1).1
    have q2 := (Array.getElem?_eq_some_iff.1 P1).1
    have H2 : w2.heap[W.heap.size]? = some (.cells (txC t).toArray 29 (0, 0)) := by rw [hb2.block _ q1]; exact H1
    have P2 : w2.heap[W.heap.size + 1]? = some (.cells (pointC p).toArray 36 (0, 0)) := by rw [hb2.block _ q2]; exact P1
    have W2 := W1.trans (hb2.mono W1.size)
    have s1 : W.heap.size < w2.heap.size := by have := hb2.size; omega
    have s2 : W.heap.size + 1 < w2.heap.size := by have := hb2.size; omega
    clear H1 P1 q1 q2 hb2
    have f1 : w2.frozen? ⟨W.heap.size, 1, none⟩ = false := frozen_of_row _ _ _ _ _ H2
    obtain ⟨-, -, f2, -⟩ := tx_all H2
    have f3 := (pt_row (pt_row33 P2)).2
    rw [Nat.zero_add] at f3
    have f4 := pt_row33 P2
    obtain ⟨v3, hv3⟩ : ∃ v, v = Value.slice (some ⟨w2.heap.size, 0, none⟩) 1 1 := ⟨_, rfl⟩
    have H3 := heap_setCell_tx H2 (some ⟨w2.heap.size, 0, none⟩) 1 1
    have P3 : (w2.setCell ⟨W.heap.size, 1, none⟩ (.slice (some ⟨w2.heap.size, 0, none⟩) 1 1)).heap[W.heap.size + 1]? = some (.cells (pointC p).toArray 36 (0, 0)) := by rw [Below.heap_setCell _ _ _ _ (by show W.heap.size + 1 ≠ W.heap.size; omega)]; exact P2
    have R3 := tx_row38 H3
    have R4 := pt_row33 P3
    have W3 : Below W.heap.size W (w2.setCell ⟨W.heap.size, 1, none⟩ (.slice (some ⟨w2.heap.size, 0, none⟩) 1 1)) := Below.setCell W2 (Nat.le_refl _) _
    have o1 : ∀ k, W.heap.size < w2.heap.size + k := fun k => by omega
    have o2 : ∀ k, W.heap.size + 1 < w2.heap.size + k := fun k => by omega
    have o3 := o1 1
    have o4 : W.heap.size < w2.heap.size + 1 + 1 := o1 2
    have o5 : W.heap.size < w2.heap.size + 1 + 1 + 1 := o1 3
    have o6 : W.heap.size < w2.heap.size + 1 + 1 + 1 + 1 := o1 4
    have o7 : W.heap.size < w2.heap.size + 1 + 1 + 1 + 1 + 1 := o1 5
    have p3 := o2 1
    have p4 : W.heap.size + 1 < w2.heap.size + 1 + 1 := o2 2
    have p5 : W.heap.size + 1 < w2.heap.size + 1 + 1 + 1 := o2 3
    have p6 : W.heap.size + 1 < w2.heap.size + 1 + 1 + 1 + 1 := o2 4
    have p7 : W.heap.size + 1 < w2.heap.size + 1 + 1 + 1 + 1 + 1 := o2 5
    clear o1 o2
    replace H3 := Box.mk H3
    replace P3 := Box.mk P3
    replace H2 := Box.mk H2
    replace P2 := Box.mk P2
    go_wp2_with fail
    have W3' := W3
    have hz : (w2.setCell ⟨W.heap.size, 1, none⟩ (.slice (some ⟨w2.heap.size, 0, none⟩) 1 1)).heap.size = w2.heap.size := by simp [World.setCell]
    clear f1 f2 f3 f4 hv3 R3 R4 o3 o4 o5 o6 o7 p3 p4 p5 p6 p7
    generalize w2.setCell ⟨W.heap.size, 1, none⟩ (.slice (some ⟨w2.heap.size, 0, none⟩) 1 1) = w3 at *
    rw [← hz]
    rw [← hz] at H3 s1 s2
    clear hz
    have BA : Below w3.heap.size w3 (w3.alloc (.cells (pointC ⟨zeroKey, p.idx⟩).toArray 36)) := (Below.refl _ _).alloc (Nat.le_refl _) _
    have SA := SL.one pointC_length (⟨zeroKey, p.idx⟩ : PointV) 36 w3
    have zA : (w3.alloc (.cells (pointC ⟨zeroKey, p.idx⟩).toArray 36)).heap.size = w3.heap.size + 1 := by simp
    generalize w3.alloc (.cells (pointC ⟨zeroKey, p.idx⟩).toArray 36) = wa at *
    have BB := fun (x : TxV) => (Below.refl wa.heap.size wa).alloc (Nat.le_refl _) (.cells (txC x).toArray 29)
    have HB := fun (x : TxV) => heap_alloc_new wa (.cells (txC x).toArray 29)
    have zB := fun (x : TxV) => (by simp : (wa.alloc (.cells (txC x).toArray 29)).heap.size = wa.heap.size + 1)
    obtain ⟨u, hu⟩ : ∃ u : TxV, u = { t with ins := ⟨some ⟨w3.heap.size + 1 + 1, 0, none⟩, 2, 2⟩ } := ⟨_, rfl⟩
    obtain ⟨v, hv⟩ : ∃ u : TxV, u = { t with ins := ⟨some ⟨w3.heap.size + 1 + 1 + 1 + 1, 0, none⟩, 1, 1⟩ } := ⟨_, rfl⟩
    obtain ⟨x, hx⟩ : ∃ u : TxV, u = { t with ins := ⟨none, 0, 0⟩ } := ⟨_, rfl⟩
    obtain ⟨y, hy⟩ : ∃ u : TxV, u = { t with ins := ⟨some ⟨w3.heap.size, 0, none⟩, 1, 1⟩ } := ⟨_, rfl⟩
    rw [← hu, ← hv, ← hx, ← hy]
    rw [← hy] at H3
    replace BB := BB u
    replace HB := HB u
    replace zB := zB u
    generalize wa.alloc (.cells (txC u).toArray 29) = wb at *
    have BC := (Below.refl wb.heap.size wb).alloc (Nat.le_refl _) (.cells (pointC zeroPoint ++ pointC p).toArray 36)
    have SC := SL.two pointC_length zeroPoint p 36 wb
    have zC : (wb.alloc (.cells (pointC zeroPoint ++ pointC p).toArray 36)).heap.size = wb.heap.size + 1 := by simp
    generalize wb.alloc (.cells (pointC zeroPoint ++ pointC p).toArray 36) = wc at *
    have BD := (Below.refl wc.heap.size wc).alloc (Nat.le_refl _) (.cells (txC v).toArray 29)
    have HD := heap_alloc_new wc (.cells (txC v).toArray 29)
    have zD : (wc.alloc (.cells (txC v).toArray 29)).heap.size = wc.heap.size + 1 := by simp
    generalize wc.alloc (.cells (txC v).toArray 29) = wd at *
    have BE := (Below.refl wd.heap.size wd).alloc (Nat.le_refl _) (.cells (pointC p).toArray 36)
    have SE := SL.one pointC_length p 36 wd
    have zE : (wd.alloc (.cells (pointC p).toArray 36)).heap.size = wd.heap.size + 1 := by simp
    generalize wd.alloc (.cells (pointC p).toArray 36) = we at *
    have BF := (Below.refl we.heap.size we).alloc (Nat.le_refl _) (.cells (txC x).toArray 29)
    have HF := heap_alloc_new we (.cells (txC x).toArray 29)
    have zF : (we.alloc (.cells (txC x).toArray 29)).heap.size = we.heap.size + 1 := by simp
    generalize we.alloc (.cells (txC x).toArray 29) = w9 at *
    have BEF := BE.trans (BF.mono (by omega))
    have BDF := BD.trans (BEF.mono (by omega))
    have BCF := BC.trans (BDF.mono (by omega))
    have BBF := BB.trans (BCF.mono (by omega))
    have BAF := BA.trans (BBF.mono (by omega))
    have TF : w9.heap[W.heap.size]? = some (.cells (txC y).toArray 29 (0, 0)) := by rw [BAF.block _ s1]; exact H3.out
    have PF : w9.heap[W.heap.size + 1]? = some (.cells (pointC p).toArray 36 (0, 0)) := by rw [BAF.block _ s2]; exact P3.out
    have UF : w9.heap[w3.heap.size + 1]? = some (.cells (txC u).toArray 29 (0, 0)) := by rw [BCF.block _ (by omega), ← zA]; exact HB
    have VF : w9.heap[w3.heap.size + 1 + 1 + 1]? = some (.cells (txC v).toArray 29 (0, 0)) := by rw [BEF.block _ (by omega), ← zA, ← zB, ← zC]; exact HD
    have XF : w9.heap[w3.heap.size + 1 + 1 + 1 + 1 + 1]? = some (.cells (txC x).toArray 29 (0, 0)) := by rw [← zA, ← zB, ← zC, ← zD, ← zE]; exact HF
    have SYF : SL pointC 33 w9 y.ins.a y.ins.len y.ins.cap [(⟨zeroKey, p.idx⟩ : PointV)] := by rw [hy]; exact SA.below BBF
    have SUF : SL pointC 33 w9 u.ins.a u.ins.len u.ins.cap [zeroPoint, p] := by rw [hu]; rw [zB, zA] at SC; exact SC.below BDF
    have SVF : SL pointC 33 w9 v.ins.a v.ins.len v.ins.cap [p] := by rw [hv]; rw [zD, zC, zB, zA] at SE; exact SE.below BF
    have SXF : SL pointC 33 w9 x.ins.a x.ins.len x.ins.cap [] := by rw [hx]; exact SL.nil _ _ _
    have WF : Below W.heap.size W w9 := W3'.trans (BAF.mono (by omega))
    have C1 := Box.mk (fun (w' : World) (h : SinceP w9 w') => coinbase_any y _ w' (SYF.below h.out))
    have C2 := Box.mk (fun (w' : World) (h : SinceP w9 w') => coinbase_any u _ w' (SUF.below h.out))
    have C3 := Box.mk (fun (w' : World) (h : SinceP w9 w') => coinbase_any v _ w' (SVF.below h.out))
    have C4 := Box.mk (fun (w' : World) (h : SinceP w9 w') => coinbase_any x _ w' (SXF.below h.out))
    rw [show cbB [(⟨zeroKey, p.idx⟩ : PointV)] = true from by simp [cbB]] at C1
    rw [show cbB [zeroPoint, p] = false from rfl] at C2
    rw [show cbB [p] = (p.tx == zeroKey) from rfl] at C3
    rw [show cbB [] = false from rfl] at C4
    replace hu := Box.mk hu
    replace hv := Box.mk hv
    replace hx := Box.mk hx
    replace hy := Box.mk hy
    clear BA BB BC BD BE BF BEF BDF BCF BBF BAF HB HD HF SA SC SE SYF SUF SVF SXF
    have hall : ∀ w', SinceP w9 w' → (rowOf w' W.heap.size 0 38 = some (txC y) ∧ rowOf w' (W.heap.size + 1) 0 32 = some (keyC p.tx) ∧ rowOf w' (w3.heap.size + 1) 0 38 = some (txC u) ∧ rowOf w' (w3.heap.size + 1 + 1 + 1) 0 38 = some (txC v) ∧ rowOf w' (w3.heap.size + 1 + 1 + 1 + 1 + 1) 0 38 = some (txC x)) := fun w' h =>
      ⟨tx_row38 (by rw [h.out.block _ (Array.getElem?_eq_some_iff.1 TF).1]; exact TF), (pt_row (pt_row33 (by rw [h.out.block _ (Array.getElem?_eq_some_iff.1 PF).1]; exact PF))).1, tx_row38 (by rw [h.out.block _ (Array.getElem?_eq_some_iff.1 UF).1]; exact UF), tx_row38 (by rw [h.out.block _ (Array.getElem?_eq_some_iff.1 VF).1]; exact VF), tx_row38 (by rw [h.out.block _ (Array.getElem?_eq_some_iff.1 XF).1]; exact XF)⟩
    clear TF PF UF VF XF
    refine hreg_begin (S := SinceP w9) (by kernel_rfl) (SinceP.refl _).drew (fun hHeld => ?_)
    simp only [List.length_cons, List.length_nil, Nat.zero_add, Nat.reduceAdd, Array.replicate]
    refine hreg_take (i := 0) rfl (by kernel_rfl) (by kernel_rfl) (by kernel_rfl) hreg_panic (by rfl) hHeld ?_
    apply Exists.intro
    refine ⟨fun w' hw' => ?_, ?_⟩
    · have hf := hall w' hw'
      go_simp
      try go_bits
      exact yieldsV_mk rfl
    simp only [Act.put, List.setIfInBounds_toArray, List.set_cons_zero, List.set_cons_succ]
    refine wpAnyH_ready (rs := [1]) (by kernel_rfl) (by simp) ?_
    refine hreg_event (o := _) rfl (by rfl) (fun K hK => ?_) ?_
    · go_simp
      first
        | (go_at_call 14; refine (C1.out _ hHeld).mono ?_; rintro e wn ⟨rfl, hb⟩)
        | skip
      refine hK.out _ _ ?_ (fun hHeld' => ?_)
      · first
          | exact hHeld.next hb
          | exact hHeld
          | exact hHeld.alloc _
          | exact hHeld.setCell (by simp <;> omega) _
          | exact (hHeld.alloc _).alloc _
      replace hHeld := hHeld'
      clear hHeld' hK K
      simp only [Act.put, List.setIfInBounds_toArray, List.set_cons_zero, List.set_cons_succ]
      refine hreg_take (i := 2) rfl (by kernel_rfl) (by kernel_rfl) (by kernel_rfl) hreg_panic (by rfl) hHeld ?_
      apply Exists.intro
      refine ⟨fun w' hw' => ?_, ?_⟩
      · have hf := hall w' hw'
        go_simp
        try go_bits
        exact yieldsV_mk rfl
      simp only [Act.put, List.setIfInBounds_toArray, List.set_cons_zero, List.set_cons_succ]
      refine hreg_take (i := 3) rfl (by kernel_rfl) (by kernel_rfl) (by kernel_rfl) hreg_panic (by rfl) hHeld ?_
      apply Exists.intro
      refine ⟨fun w' hw' => ?_, ?_⟩
      · have hf := hall w' hw'
        go_simp
        try go_bits
        exact yieldsV_mk rfl
      simp only [Act.put, List.setIfInBounds_toArray, List.set_cons_zero, List.set_cons_succ]
      refine wpAnyH_ready (rs := [4]) (by kernel_rfl) (by simp) ?_
      refine hreg_event (o := _) rfl (by rfl) (fun K hK => ?_) ?_
      · go_simp
        first
          | (go_at_call 14; refine (C2.out _ hHeld).mono ?_; rintro e wn ⟨rfl, hb⟩)
          | skip
        refine hK.out _ _ ?_ (fun hHeld' => ?_)
        · first
            | exact hHeld.next hb
            | exact hHeld
            | exact hHeld.alloc _
            | exact hHeld.setCell (by simp <;> omega) _
            | exact (hHeld.alloc _).alloc _
        replace hHeld := hHeld'
        clear hHeld' hK K
        simp only [Act.put, List.setIfInBounds_toArray, List.set_cons_zero, List.set_cons_succ]
        refine hreg_take (i := 5) rfl (by kernel_rfl) (by kernel_rfl) (by kernel_rfl) hreg_panic (by rfl) hHeld ?_
        apply Exists.intro
        refine ⟨fun w' hw' => ?_, ?_⟩
        · have hf := hall w' hw'
          go_simp
          try go_bits
          exact yieldsV_mk rfl
        simp only [Act.put, List.setIfInBounds_toArray, List.set_cons_zero, List.set_cons_succ]
        refine hreg_take (i := 6) rfl (by kernel_rfl) (by kernel_rfl) (by kernel_rfl) hreg_panic (by rfl) hHeld ?_
        apply Exists.intro
        refine ⟨fun w' hw' => ?_, ?_⟩
        · have hf := hall w' hw'
          go_simp
          try go_bits
          exact yieldsV_mk rfl
        simp only [Act.put, List.setIfInBounds_toArray, List.set_cons_zero, List.set_cons_succ]
        refine hreg_take (i := 7) rfl (by kernel_rfl) (by kernel_rfl) (by kernel_rfl) hreg_panic (by rfl) hHeld ?_
        apply Exists.intro
        refine ⟨fun w' hw' => ?_, ?_⟩
        · have hf := hall w' hw'
          go_simp
          try go_bits
          exact yieldsV_mk rfl
        simp only [Act.put, List.setIfInBounds_toArray, List.set_cons_zero, List.set_cons_succ]
        refine hreg_take (i := 8) rfl (by kernel_rfl) (by kernel_rfl) (by kernel_rfl) hreg_panic (by rfl) hHeld ?_
        apply Exists.intro
        refine ⟨fun w' hw' => ?_, ?_⟩
        · have hf := hall w' hw'
          go_simp
          try go_bits
          exact yieldsV_mk rfl
        simp only [Act.put, List.setIfInBounds_toArray, List.set_cons_zero, List.set_cons_succ]
        refine hreg_take (i := 10) rfl (by kernel_rfl) (by kernel_rfl) (by kernel_rfl) hreg_panic (by rfl) hHeld ?_
        apply Exists.intro
        refine ⟨fun w' hw' => ?_, ?_⟩
        · have hf := hall w' hw'
          go_simp
          try go_bits
          exact yieldsV_mk rfl
        simp only [Act.put, List.setIfInBounds_toArray, List.set_cons_zero, List.set_cons_succ]
        refine hreg_take (i := 11) rfl (by kernel_rfl) (by kernel_rfl) (by kernel_rfl) hreg_panic (by rfl) hHeld ?_
        apply Exists.intro
        refine ⟨fun w' hw' => ?_, ?_⟩
        · have hf := hall w' hw'
          go_simp
          try go_bits
          exact yieldsV_mk rfl
        simp only [Act.put, List.setIfInBounds_toArray, List.set_cons_zero, List.set_cons_succ]
        refine hreg_take (i := 12) rfl (by kernel_rfl) (by kernel_rfl) (by kernel_rfl) hreg_panic (by rfl) hHeld ?_
        apply Exists.intro
        refine ⟨fun w' hw' => ?_, ?_⟩
        · have hf := hall w' hw'
          go_simp
          try go_bits
          exact yieldsV_mk rfl
        simp only [Act.put, List.setIfInBounds_toArray, List.set_cons_zero, List.set_cons_succ]
        refine hreg_take (i := 13) rfl (by kernel_rfl) (by kernel_rfl) (by kernel_rfl) hreg_panic (by rfl) hHeld ?_
        apply Exists.intro
        refine ⟨fun w' hw' => ?_, ?_⟩
        · have hf := hall w' hw'
          go_simp
          try go_bits
          exact yieldsV_mk rfl
        simp only [Act.put, List.setIfInBounds_toArray, List.set_cons_zero, List.set_cons_succ]
        refine wpAnyH_ready (rs := [9]) (by kernel_rfl) (by simp) ?_
        refine hreg_event (o := _) rfl (by rfl) (fun K hK => ?_) ?_
        · go_simp
          first
            | (go_at_call 14; refine (C3.out _ hHeld).mono ?_; rintro e wn ⟨rfl, hb⟩)
            | skip
          refine hK.out _ _ ?_ (fun hHeld' => ?_)
          · first
              | exact hHeld.next hb
              | exact hHeld
              | exact hHeld.alloc _
              | exact hHeld.setCell (by simp <;> omega) _
              | exact (hHeld.alloc _).alloc _
          replace hHeld := hHeld'
          clear hHeld' hK K
          simp only [Act.put, List.setIfInBounds_toArray, List.set_cons_zero, List.set_cons_succ]
          refine hreg_take (i := 14) rfl (by kernel_rfl) (by kernel_rfl) (by kernel_rfl) hreg_panic (by rfl) hHeld ?_
          apply Exists.intro
          refine ⟨fun w' hw' => ?_, ?_⟩
          · have hf := hall w' hw'
            go_simp
            try go_bits
            exact yieldsV_mk rfl
          simp only [Act.put, List.setIfInBounds_toArray, List.set_cons_zero, List.set_cons_succ]
          refine hreg_take (i := 15) rfl (by kernel_rfl) (by kernel_rfl) (by kernel_rfl) hreg_panic (by rfl) hHeld ?_
          apply Exists.intro
          refine ⟨fun w' hw' => ?_, ?_⟩
          · have hf := hall w' hw'
            go_simp
            try go_bits
            exact yieldsV_mk rfl
          simp only [Act.put, List.setIfInBounds_toArray, List.set_cons_zero, List.set_cons_succ]
          refine hreg_take (i := 16) rfl (by kernel_rfl) (by kernel_rfl) (by kernel_rfl) hreg_panic (by rfl) hHeld ?_
          apply Exists.intro
          refine ⟨fun w' hw' => ?_, ?_⟩
          · have hf := hall w' hw'
            go_simp
            try go_bits
            exact yieldsV_mk rfl
          simp only [Act.put, List.setIfInBounds_toArray, List.set_cons_zero, List.set_cons_succ]
          refine hreg_take (i := 17) rfl (by kernel_rfl) (by kernel_rfl) (by kernel_rfl) hreg_panic (by rfl) hHeld ?_
          apply Exists.intro
          refine ⟨fun w' hw' => ?_, ?_⟩
          · have hf := hall w' hw'
            go_simp
            try go_bits
            exact yieldsV_mk rfl
          simp only [Act.put, List.setIfInBounds_toArray, List.set_cons_zero, List.set_cons_succ]
          refine wpAnyH_ready (rs := [18]) (by kernel_rfl) (by simp) ?_
          refine hreg_event (o := _) rfl (by rfl) (fun K hK => ?_) ?_
          · go_simp
            first
              | (go_at_call 14; refine (C4.out _ hHeld).mono ?_; rintro e wn ⟨rfl, hb⟩)
              | skip
            refine hK.out _ _ ?_ (fun hHeld' => ?_)
            · first
                | exact hHeld.next hb
                | exact hHeld
                | exact hHeld.alloc _
                | exact hHeld.setCell (by simp <;> omega) _
                | exact (hHeld.alloc _).alloc _
            replace hHeld := hHeld'
            clear hHeld' hK K
            simp only [Act.put, List.setIfInBounds_toArray, List.set_cons_zero, List.set_cons_succ]
            refine hreg_take (i := 19) rfl (by kernel_rfl) (by kernel_rfl) (by kernel_rfl) hreg_panic (by rfl) hHeld ?_
            apply Exists.intro
            refine ⟨fun w' hw' => ?_, ?_⟩
            · have hf := hall w' hw'
              go_simp
              try go_bits
              exact yieldsV_mk rfl
            simp only [Act.put, List.setIfInBounds_toArray, List.set_cons_zero, List.set_cons_succ]
            refine hreg_take (i := 20) rfl (by kernel_rfl) (by kernel_rfl) (by kernel_rfl) hreg_panic (by rfl) hHeld ?_
            apply Exists.intro
            refine ⟨fun w' hw' => ?_, ?_⟩
            · have hf := hall w' hw'
              go_simp
              try go_bits
              exact yieldsV_mk rfl
            simp only [Act.put, List.setIfInBounds_toArray, List.set_cons_zero, List.set_cons_succ]
            refine hreg_take (i := 21) rfl (by kernel_rfl) (by kernel_rfl) (by kernel_rfl) hreg_panic (by rfl) hHeld ?_
            apply Exists.intro
            refine ⟨fun w' hw' => ?_, ?_⟩
            · have hf := hall w' hw'
              go_simp
              try go_bits
              exact yieldsV_mk rfl
            simp only [Act.put, List.setIfInBounds_toArray, List.set_cons_zero, List.set_cons_succ]
            refine wpAnyH_done (by kernel_rfl) ?_ _
            refine NoPanic.normal ?_
            go_wp2
            go_ret
            exact gives_bool rfl (WF.trans (hHeld.out.mono WF.size))
          exact AllReadyH.nil
        exact AllReadyH.nil
      exact AllReadyH.nil
    exact AllReadyH.nil
  · go_wp2_with fail
    refine (heavy_any t _).mono ?_
    rintro e w1 ⟨rfl, hb1⟩
    rw [hh]
    have W1 := hB0.trans (hb1.mono hB0.size)
    go_wp2_with fail
    refine (shown05 w1).mono ?_
    rintro e w2 ⟨rfl, hb2⟩
    go_wp2
    go_ret
    exact gives_bool rfl (W1.trans (hb2.mono W1.size))

end Go.Proofs.Ytfnlgihkofkibaa
