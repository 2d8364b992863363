/- Package tree: Of; Root of a tree of nothing; what is shown. -/
import Derived.Test.YtabikhmaiennpaaTree3
namespace Go.Proofs.Ytabikhmaiennpaa
open Go.RowKit
set_option linter.unusedVariables false
set_option linter.unusedSimpArgs false
set_option maxRecDepth 100000
attribute [local irreducible] Int.lt Int.le
attribute [local go_sem ↓] load_key store_key alloc_key build0_key eq_key load_a33 store_a33 alloc_a33 load_tree store_tree alloc_tree build0_tree build1_key
attribute [local go_sem] rowOf_drew canPut_drew canPut_alloc_old canPut_alloc_new setCells_alloc_new treeC_g0

theorem putT_zero (k : Key) : (putT zeroTree k).count = 1 ∧ (putT zeroTree k).l[0]? = some k := by
  refine ⟨putT_count _ _, ?_⟩
  unfold putT
  show (upL 0 32 0 k (List.replicate 32 zeroKey))[0]? = _
  have hb : bitB 0 0 = false := by unfold bitB; decide
  rw [upL, hb]
  rfl
set_option maxHeartbeats 2000000 in
theorem shown07_any (W : World) : Calls Try.prog 10 #[] W (Gives (.bool true) W) := by
  obtain ⟨p1, p2⟩ := putT_zero (key1 5)
  have hap := append_any zeroTree (key1 5) W (by decide)
  obtain ⟨t, ht⟩ : ∃ t, putT zeroTree (key1 5) = t := ⟨_, rfl⟩
  rw [ht] at p1 p2 hap
  replace ht := Box.mk ht
  replace hap := Box.mk hap
  have b5 : ∀ w, build1To Try.prog 23 w (.int .u8 5) = .ok (.value (.agg (keyC (key1 5)).toArray)) w := fun w => build1To_lit _ _ w 5 (by omega)
  go_enter Try.func10, Try.ntmps10
  go_wp2_with fail
  refine hap.out.mono ?_
  rintro e w1 ⟨rfl, hb⟩
  unfold valT
  have hT : TB (w1.alloc (.cells (treeC t).toArray 28)) w1.heap.size t := heap_alloc_new w1 _
  have hB := hb.alloc hb.size (.cells (treeC t).toArray 28)
  obtain ⟨c1, c2⟩ := hT.count
  have r1 := hT.part p2
  rw [p1] at c1
  have hg : (treeC t)[0]'(by rw [treeC_length]; omega) = .int .u32 1 := by rw [treeC_g0, p1]; rfl
  replace hT := Box.mk hT
  replace hB := Box.mk hB
  replace p1 := Box.mk p1
  replace p2 := Box.mk p2
  go_wp2_with fail
  go_ret
  exact gives_bool rfl hB.out

set_option maxHeartbeats 2000000 in
theorem of_any (a : Option Addr) (cap : Nat) (l : List Key) (W : World) (h : KL W a cap l) (hl : l.length ≤ 2000) : Calls Try.prog 11 #[.slice a l.length cap] W (Gives (.agg (treeC (putsT zeroTree l)).toArray) W) := by
  have hR0 : TB (W.alloc (.cells (treeC zeroTree).toArray 28)) W.heap.size zeroTree := heap_alloc_new W _
  have hB0 : Below W.heap.size W (W.alloc (.cells (treeC zeroTree).toArray 28)) := (Below.refl _ _).alloc (Nat.le_refl _) _
  have hs0 : (W.alloc (.cells (treeC zeroTree).toArray 28)).heap.size = W.heap.size + 1 := by simp
  have hcap := h.2.1
  have hcall := all_any zeroTree a cap l _ (h.below hB0) hl (by show 0 + l.length ≤ _; omega)
  have hlm : (l.length : Int) % 18446744073709551616 = l.length := by omega
  have hmin : min (l.length : Int) 4294967295 = l.length := by omega
  have hcap' : (l.length : Int) ≤ cap := by omega
  obtain ⟨t, ht⟩ : ∃ t, putsT zeroTree l = t := ⟨_, rfl⟩
  rw [ht] at hcall ⊢
  replace ht := Box.mk ht
  replace h := Box.mk h
  replace hR0 := Box.mk hR0
  replace hB0 := Box.mk hB0
  replace hs0 := Box.mk hs0
  replace hcall := Box.mk hcall
  go_enter Try.func11, Try.ntmps11
  go_wp2_with fail
  generalize W.alloc (.cells (treeC zeroTree).toArray 28) = w0 at *
  refine hcall.out.mono ?_
  rintro e w1 ⟨rfl, hb1⟩
  unfold valT
  have hR1 := hR0.out.below hb1
  have hB1 := hB0.out.trans (hb1.mono (by rw [hs0.out]; omega))
  have hT2 : TB (w1.alloc (.cells (treeC t).toArray 28)) w1.heap.size t := heap_alloc_new w1 _
  have hbA : Below w1.heap.size w1 (w1.alloc (.cells (treeC t).toArray 28)) := (Below.refl _ _).alloc (Nat.le_refl _) _
  have hR2 := hR1.below hbA
  have hB2 := hB1.trans (hbA.mono hB1.size)
  have r2 := hT2.row
  have l2 := hT2.lt
  have p2 := hR2.can 0 1025 (by omega)
  have l3 := hR2.lt
  have rf := row_put_tree hR2 t
  have bf := Box.mk (below_setCells (B := W.heap.size) (b := W.heap.size) (Nat.le_refl _) (treeC t) 0 _ _ hB2)
  replace rf := Box.mk rf
  replace hT2 := Box.mk hT2
  replace hR2 := Box.mk hR2
  replace hR1 := Box.mk hR1
  replace hB1 := Box.mk hB1
  replace hB2 := Box.mk hB2
  replace hbA := Box.mk hbA
  replace hb1 := Box.mk hb1
  go_wp2_with fail
  refine bodyPost_ret (v := .agg (treeC t).toArray) (res1 Try.results11 (res_tree (b := W.heap.size) (o := 0) (by simp [go_sem]) rf.out)) rfl ?_
  exact gives rfl bf.out

theorem bit_zero (i : Nat) : bitB 0 i = false := by unfold bitB; simp
set_option maxHeartbeats 2000000 in
theorem up0_any {w : World} {tb xb eb : Nat} {x : Key} (hT : TB w tb zeroTree) (hX : KB w xb x) (hE : A3 w eb (empE 32)) (i : Nat) (hi : i < 32) :
    Calls Try.prog 19 #[.int .i64 i, .pointer (some ⟨tb, 0, none⟩), .pointer (some ⟨xb, 0, none⟩), .pointer (some ⟨eb, 0, none⟩)] w (Gives (.agg (keyC (pairK x (emp i))).toArray) w) := by
  have hb0 : Below w.heap.size w (w.alloc (.cells (keyC zeroKey).toArray 23)) := (Below.refl _ _).alloc (Nat.le_refl _) _
  have hT0 := hT.below hb0
  have hX0 := hX.below hb0
  have hE0 := hE.below hb0
  have hR0 : KB (w.alloc (.cells (keyC zeroKey).toArray 23)) w.heap.size zeroKey := heap_alloc_new w _
  have hbit := bit_any hT0 i hi (by decide)
  rw [show bitB zeroTree.count i = false from bit_zero i] at hbit
  replace hT := Box.mk hT
  replace hX := Box.mk hX
  replace hE := Box.mk hE
  replace hb0 := Box.mk hb0
  replace hT0 := Box.mk hT0
  replace hX0 := Box.mk hX0
  replace hE0 := Box.mk hE0
  replace hR0 := Box.mk hR0
  replace hbit := Box.mk hbit
  have hi3 : (i : Int) < 33 := by omega
  go_enter Try.func19, Try.ntmps19
  go_wp2_with fail
  generalize w.alloc (.cells (keyC zeroKey).toArray 23) = w0 at *
  refine hbit.out.mono ?_
  rintro e w1 ⟨rfl, hb1⟩
  have hX1 := hX0.out.below hb1
  have hE1 := hE0.out.below hb1
  have hR1 := hR0.out.below hb1
  have r1 := hX1.row
  have r2 := hE1.part (i := i) (k := emp i) (by rw [empE_at _ (by omega), if_pos (by omega)])
  have hall : ∀ w', SinceP w1 w' → (rowOf w' xb 0 32 = some (keyC x) ∧ rowOf w' eb (i * 32) 32 = some (keyC (emp i)) ∧ xb < w'.heap.size ∧ eb < w'.heap.size ∧ w.heap.size < w'.heap.size) := fun w' hw =>
    ⟨(rowOf_congr (hw.out.block xb hX1.lt) _ _).trans r1, (rowOf_congr (hw.out.block eb hE1.lt) _ _).trans r2, Nat.lt_of_lt_of_le hX1.lt hw.out.size, Nat.lt_of_lt_of_le hE1.lt hw.out.size, Nat.lt_of_lt_of_le hR1.lt hw.out.size⟩
  have hB1 := hb0.out.trans (hb1.mono hb0.out.size)
  clear r1 r2
  replace hX1 := Box.mk hX1
  replace hE1 := Box.mk hE1
  replace hR1 := Box.mk hR1
  replace hB1 := Box.mk hB1
  generalize emp i = ei at *
  go_wp2_with fail
  refine zreg_begin (z := 5) (S := SinceP w1) (by kernel_rfl) (SinceP.refl _).drew (fun hHeld => ?_)
  simp only [List.length_cons, List.length_nil, Nat.zero_add, Nat.reduceAdd, Array.replicate]
  refine zreg_take (i := 0) rfl (by kernel_rfl) (by kernel_rfl) (by kernel_rfl) (by kernel_rfl) hreg_panic (by rfl) hHeld ?_
  apply Exists.intro
  refine ⟨fun w' hw' => ?_, ?_⟩
  · have hf := hall w' hw'
    go_simp
    try go_bits
    exact yieldsV_mk rfl
  simp only [Act.put, List.setIfInBounds_toArray, List.set_cons_zero, List.set_cons_succ]
  refine zreg_take (i := 1) rfl (by kernel_rfl) (by kernel_rfl) (by kernel_rfl) (by kernel_rfl) hreg_panic (by rfl) hHeld ?_
  apply Exists.intro
  refine ⟨fun w' hw' => ?_, ?_⟩
  · have hf := hall w' hw'
    go_simp
    try go_bits
    exact yieldsV_mk rfl
  simp only [Act.put, List.setIfInBounds_toArray, List.set_cons_zero, List.set_cons_succ]
  refine zreg_take (i := 2) rfl (by kernel_rfl) (by kernel_rfl) (by kernel_rfl) (by kernel_rfl) hreg_panic (by rfl) hHeld ?_
  apply Exists.intro
  refine ⟨fun w' hw' => ?_, ?_⟩
  · have hf := hall w' hw'
    go_simp
    try go_bits
    exact yieldsV_mk rfl
  simp only [Act.put, List.setIfInBounds_toArray, List.set_cons_zero, List.set_cons_succ]
  refine zreg_take (i := 3) rfl (by kernel_rfl) (by kernel_rfl) (by kernel_rfl) (by kernel_rfl) hreg_panic (by rfl) hHeld ?_
  apply Exists.intro
  refine ⟨fun w' hw' => ?_, ?_⟩
  · have hf := hall w' hw'
    go_simp
    try go_bits
    exact yieldsV_mk rfl
  simp only [Act.put, List.setIfInBounds_toArray, List.set_cons_zero, List.set_cons_succ]
  refine wpAnyZ_ready (rs := [4]) (by kernel_rfl) (by simp) ?_
  refine zreg_event (o := _) rfl (by rfl) (by decide) (fun K hK => ?_) ?_
  · go_simp
    first
      | (go_at_call 18; refine (pair_any x ei _).mono ?_; rintro e wn ⟨rfl, hbn⟩; have hRn := (hR1.out.below (Below.refl _ _).drew).below hbn; have hcp := hRn.can; have hln := hRn.lt)
      | skip
    refine hK.out _ _ ?_ (fun hHeld' => ?_)
    · first
        | exact hHeld.next hbn
        | exact hHeld.next hb
        | exact hHeld
        | exact hHeld.alloc _
        | exact hHeld.setCell (by simp <;> omega) _
        | exact (hHeld.alloc _).alloc _
    replace hHeld := hHeld'
    clear hHeld' hK K
    simp only [Act.put, List.setIfInBounds_toArray, List.set_cons_zero, List.set_cons_succ]
    refine wpAnyZ_ready (rs := [5]) (by kernel_rfl) (by simp) ?_
    refine zreg_last (o := _) rfl (by rfl) (fun K hK => ?_) ?_
    · go_simp
      first
        | skip
      refine hK.out _ _ ?_
      clear hK K hHeld
      simp only [Act.put, List.setIfInBounds_toArray, List.set_cons_zero, List.set_cons_succ]
      refine wpAnyZ_done (by kernel_rfl) ?_ _
      refine NoPanic.normal ?_
      have rf := Box.mk (hRn.put (pairK x ei)).row
      have bf := Box.mk (below_setCells (B := w.heap.size) (b := w.heap.size) (Nat.le_refl _) (keyC (pairK x ei)) 0 _ _ (hB1.out.trans (((Below.refl w1.heap.size w1).drew.trans (hbn.mono (Nat.le_refl _))).mono hB1.out.size)))
      clear hall hcp hln
      go_wp2
      refine bodyPost_ret (v := .agg (keyC (pairK x ei)).toArray) (res1 Try.results19 (res_key (b := w.heap.size) (o := 0) (by simp [go_sem]) rf.out)) rfl ?_
      exact gives rfl bf.out
    exact AllReadyZ.nil
  exact AllReadyZ.nil
end Go.Proofs.Ytabikhmaiennpaa
