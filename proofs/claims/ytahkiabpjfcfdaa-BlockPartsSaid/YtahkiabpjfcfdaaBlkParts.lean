/- BlockParts: the walk. -/
import Derived.Test.YtahkiabpjfcfdaaBlkHalf
import Derived.Test.YtahkiabpjfcfdaaSameK
import Derived.Test.YtahkiabpjfcfdaaBase
namespace Go.Proofs.Ytahkiabpjfcfdaa
open Go.RowKit
set_option linter.unusedVariables false
set_option linter.unusedSimpArgs false
set_option maxRecDepth 100000
attribute [local irreducible] Int.lt Int.le
attribute [local go_sem ↓] load_key store_key alloc_key build0_key eq_key load_tx store_tx alloc_tx load_blk store_blk alloc_blk build0_blk build_blk3 append_key build0_tx one_tx
attribute [local go_sem] rowOf_drew rowOf_alloc_old rowOf_alloc_new canPut_drew canPut_alloc_old canPut_alloc_new setCells_alloc_new

/-- A block of one transaction that has one input of nothing: it wants no signature. -/
def pt1 (w : World) : TxV := { zeroTx with ins := ⟨some ⟨w.heap.size, 0, none⟩, 1, 1⟩ }
def built1To (P : Program) (w : World) (u : Value) : Result Next := (do pure (.value (← Instr.build 41 #[(1, u)])) : Sem Next).run P w
theorem build_txi (ρ : Operand → Value) (dst : Option Tmp) (x : Operand) (t : TypeId) (pos : String) (after : Array Edge) (guard : Option (Nat × Bool)) (w : World) :
    (execOp ρ ⟨dst, .build 41 #[(1, x)], t, pos, after, guard⟩).run Try.prog w = built1To Try.prog w (ρ x) := by simp [execOp, built1To]
theorem run_build_txi (a : Option Addr) (l c : Nat) (w : World) : (Instr.build 41 #[(1, Value.slice a l c)]).run Try.prog w = .ok (.agg (txC { zeroTx with ins := ⟨a, l, c⟩ }).toArray) w := by kernel_rfl
@[go_sem] theorem built1To_lit (a : Option Addr) (l c : Nat) (w : World) : built1To Try.prog w (.slice a l c) = .ok (.value (.agg (txC { zeroTx with ins := ⟨a, l, c⟩ }).toArray)) w := by
  unfold built1To
  rw [Sem.run_bind, run_build_txi]
  rfl
attribute [local go_sem ↓] build_txi build0_point one_point
theorem sig0_any (w : World) : Calls Try.prog 31 #[.agg (blkC ⟨zeroKey, zeroKey, 0, ⟨some ⟨w.heap.size + 1, 0, none⟩, 1, 1⟩⟩).toArray] ((w.alloc (.cells (pointC zeroPoint).toArray 59)).alloc (.cells (txC { zeroTx with ins := ⟨some ⟨w.heap.size, 0, none⟩, 1, 1⟩ }).toArray 41)) (Gives (.int .i64 0) ((w.alloc (.cells (pointC zeroPoint).toArray 59)).alloc (.cells (txC { zeroTx with ins := ⟨some ⟨w.heap.size, 0, none⟩, 1, 1⟩ }).toArray 41))) := by
  have hP := SL.one (f := pointC) pointC_length zeroPoint 59 w
  have hT : TxL ((w.alloc (.cells (pointC zeroPoint).toArray 59)).alloc (.cells (txC { zeroTx with ins := ⟨some ⟨w.heap.size, 0, none⟩, 1, 1⟩ }).toArray 41)) { zeroTx with ins := ⟨some ⟨w.heap.size, 0, none⟩, 1, 1⟩ } { zeroT with ins := [zeroPoint] } :=
    ⟨hP.below ((Below.refl _ _).alloc (Nat.le_refl _) _), SL.nil _ _ _, SL.nil _ _ _, SL.nil _ _ _, fun p hp => by rw [List.mem_singleton.1 hp]; exact ⟨by decide, by decide⟩, fun p hp => (List.not_mem_nil hp).elim, ⟨rfl, by decide, by decide⟩, rfl, ⟨rfl, by decide, by decide⟩⟩
  have hS := SL.one (f := fun q : TxV × TxD => txC q.1) (fun q => txC_length q.1) ({ zeroTx with ins := ⟨some ⟨w.heap.size, 0, none⟩, 1, 1⟩ }, { zeroT with ins := [zeroPoint] }) 41 (w.alloc (.cells (pointC zeroPoint).toArray 59))
  rw [World.size_alloc] at hS
  exact sigs_any _ [({ zeroTx with ins := ⟨some ⟨w.heap.size, 0, none⟩, 1, 1⟩ }, { zeroT with ins := [zeroPoint] })] ⟨zeroKey, zeroKey, 0, [{ zeroT with ins := [zeroPoint] }]⟩ _
    ⟨hS, fun q hq => by rw [List.mem_singleton.1 hq]; exact hT, rfl, rfl, rfl, ⟨rfl, (by decide : (0 : Int) ≤ 0), (by decide : (0 : Int) ≤ 4294967295)⟩⟩
    ⟨by show 1 ≤ 40; omega, fun t ht => by rw [List.mem_singleton.1 ht]; exact ⟨by show 1 ≤ 60; omega, by show 0 ≤ 60; omega, by show 0 ≤ 60; omega, by show 0 ≤ 60; omega⟩⟩

set_option maxHeartbeats 2000000 in
theorem blockParts_walk (v : BlkV) (qs : List (TxV × TxD)) (d : BlkD) (k : Nat) (hk8 : k ≤ 255) (W : World) (h : BlkL W v qs d) : Calls Try.prog 9 #[.agg (blkC v).toArray, .int .u8 k] W (Gives (.bool true) W) := by
  have hB0 : Below W.heap.size W (W.alloc (.cells (blkC v).toArray 50)) := (Below.refl _ _).alloc (Nat.le_refl _) _
  have hH0 := heap_alloc_new W (.cells (blkC v).toArray 50)
  have hvl := h.vlen
  have hqd : qs.length = d.txs.length := by have := congrArg List.length h.cont; rw [List.length_map] at this; exact this.symm
  have hcap := h.txs.2.1
  have hmax : (v.txs.len : Int) ≤ 9223372036854775807 := by have := Nat.le_trans h.txs.2.1 h.txs.2.2.1; unfold maxLen at this; omega
  rw [hvl] at hmax hcap
  have hs0 : (W.alloc (.cells (blkC v).toArray 50)).heap.size = W.heap.size + 1 := by simp
  replace hH0 := Box.mk hH0
  replace h := Box.mk h
  cases hh : hvB d
  · have hk := hvB_ok hh
    have h40 := hk.1
    go_enter Try.func9, Try.ntmps9
    go_wp2_with fail
    refine (heavy06_any v qs d _ (h.out.below hB0)).mono ?_
    rintro e w1 ⟨rfl, hb1⟩
    rw [hh]
    replace hh := Box.mk hh
    have W1 := hB0.trans (hb1.mono hB0.size)
    have H1 := keepBlock hb1 hH0.out
    clear hb1 hs0
    replace H1 := Box.mk H1
    go_wp2_with fail
    refine (shown06_any w1).mono ?_
    rintro e w2 ⟨rfl, hb2⟩
    have W2 := W1.trans (hb2.mono W1.size)
    have H2 := keepBlock hb2 H1.out
    obtain ⟨s2, R2, _, _, _, k5⟩ := blk_all H2
    rw [hvl] at k5
    clear hb2 W1 H1
    replace H2 := Box.mk H2
    replace hk := Box.mk hk
    obtain ⟨i, hi⟩ : ∃ i : Nat, (k : Int) % ((d.txs.length : Int) + 1) = (i : Int) := ⟨k % (d.txs.length + 1), by rw [Int.natCast_emod, Int.natCast_add]; rfl⟩
    have hil : i ≤ d.txs.length := by have := Int.emod_lt_of_pos (k : Int) (show (0 : Int) < (d.txs.length : Int) + 1 by omega); omega
    have hi0 : (i : Int) ≤ d.txs.length := by omega
    have hic : i ≤ v.txs.cap := by clear hi; omega
    by_cases hcc : i = v.txs.cap
    · have hlc : d.txs.length = v.txs.cap := by omega
      have Y0 : BlkL w2 ⟨zeroKey, zeroKey, 0, ⟨v.txs.a, d.txs.length - i, 0⟩⟩ (qs.drop i) ⟨zeroKey, zeroKey, 0, d.txs.drop i⟩ := (h.out.below W2).ofSL i (by
        have := (h.out.below W2).txs.drops0 (by rw [h.out.vlen]; exact hlc)
        rw [hcc]; rw [h.out.vlen] at this; exact this)
      have X0 := (h.out.below W2).takes i hil
      have okx := hk.out.takes i
      have oky := hk.out.drops i
      obtain ⟨Y, hY⟩ : ∃ Y : BlkV, Y = ⟨zeroKey, zeroKey, 0, ⟨v.txs.a, d.txs.length - i, 0⟩⟩ := ⟨_, rfl⟩
      rw [← hY] at Y0
      replace Y0 := Box.mk Y0
      replace okx := Box.mk okx
      replace oky := Box.mk oky
      have hvc : v.txs.cap = i := hcc.symm
      rw [hvc] at X0
      replace hcc := Box.mk hcc
      replace hlc := Box.mk hlc
      replace hY := Box.mk hY
      replace X0 := Box.mk X0
      go_wp2_with fail
      replace hY := hY.out
      replace X0 := X0.out
      rw [← hY]
      obtain ⟨X, hX⟩ : ∃ X : BlkV, X = ⟨zeroKey, zeroKey, 0, ⟨v.txs.a, i, i⟩⟩ := ⟨_, rfl⟩
      rw [← hX] at X0 ⊢
      replace X0 := Box.mk X0
      replace hX := Box.mk hX
      replace hY := Box.mk hY
      have B2 : Below w2.heap.size w2 ((w2.alloc (.cells (blkC X).toArray 50)).alloc (.cells (blkC Y).toArray 50)) := ((Below.refl _ _).alloc (Nat.le_refl _) _).alloc (by simp) _
      have HX : ((w2.alloc (.cells (blkC X).toArray 50)).alloc (.cells (blkC Y).toArray 50)).heap[w2.heap.size]? = some (.cells (blkC X).toArray 50 (0, 0)) := keepBlock ((Below.refl _ _).alloc (Nat.le_refl _) _) (heap_alloc_new w2 _)
      have HY : ((w2.alloc (.cells (blkC X).toArray 50)).alloc (.cells (blkC Y).toArray 50)).heap[w2.heap.size + 1]? = some (.cells (blkC Y).toArray 50 (0, 0)) := by
        have := heap_alloc_new (w2.alloc (.cells (blkC X).toArray 50)) (.cells (blkC Y).toArray 50)
        rwa [World.size_alloc] at this
      have HB := keepBlock B2 H2.out
      obtain ⟨w8, hw8⟩ : ∃ w8, w8 = (w2.alloc (.cells (blkC X).toArray 50)).alloc (.cells (blkC Y).toArray 50) := ⟨_, rfl⟩
      rw [← hw8] at B2 HX HY HB ⊢
      have W8 := W2.trans (B2.mono W2.size)
      have L8 := Box.mk (h.out.below W8)
      have X8 := Box.mk (X0.out.below B2)
      have Y8 := Box.mk (Y0.out.below B2)
      have hall : ∀ w', SinceP w8 w' → rowOf w' W.heap.size 0 66 = some (blkC v) ∧ rowOf w' w2.heap.size 0 66 = some (blkC X) ∧ rowOf w' (w2.heap.size + 1) 0 66 = some (blkC Y) ∧ W.heap.size < w'.heap.size ∧ w2.heap.size < w'.heap.size ∧ w2.heap.size + 1 < w'.heap.size := fun w' hw => by
        obtain ⟨c1, c2, _⟩ := blk_all (keepBlock hw.out HB)
        obtain ⟨c3, c4, _⟩ := blk_all (keepBlock hw.out HX)
        obtain ⟨c5, c6, _⟩ := blk_all (keepBlock hw.out HY)
        exact ⟨c2, c4, c6, c1, c3, c5⟩
      replace hw8 := Box.mk hw8
      replace W8 := Box.mk W8
      replace HB := Box.mk HB
      replace HX := Box.mk HX
      replace HY := Box.mk HY
      replace B2 := Box.mk B2
      have hlv := Box.mk (show (notesL d.txs).length ≤ 100000 by { have h1 := notesL_le d.txs hk.out.2; have h2 := hk.out.1; omega })
      have hlx := Box.mk (show ([] : List Key).length + (notesL (d.txs.take i)).length ≤ 2000000 by { have h1 := notesL_le (d.txs.take i) okx.out.2; have h2 : (d.txs.take i).length ≤ 40 := okx.out.1; rw [List.length_nil]; omega })
      have hly := Box.mk (show ([] ++ notesL (d.txs.take i)).length + (notesL (d.txs.drop i)).length ≤ 2000000 by { have h1 := notesL_le (d.txs.take i) okx.out.2; have h2 : (d.txs.take i).length ≤ 40 := okx.out.1; have h3 := notesL_le (d.txs.drop i) oky.out.2; have h4 : (d.txs.drop i).length ≤ 40 := oky.out.1; rw [List.nil_append]; omega })
      clear k5 R2 s2
      refine hreg_begin (S := SinceP w8) (by kernel_rfl) (SinceP.refl _).drew (fun hHeld => ?_)
      simp only [List.length_cons, List.length_nil, Nat.zero_add, Nat.reduceAdd, Array.replicate]
      refine hreg_take (i := 1) rfl (by kernel_rfl) (by kernel_rfl) (by kernel_rfl) hreg_panic (by rfl) hHeld ?_
      apply Exists.intro
      refine ⟨fun w' hw' => ?_, ?_⟩
      · have hf := hall w' hw'
        go_simp
        try go_bits
        exact yieldsV_mk rfl
      simp only [Act.put, List.setIfInBounds_toArray, List.set_cons_zero, List.set_cons_succ]
      refine hreg_take (i := 4) rfl (by kernel_rfl) (by kernel_rfl) (by kernel_rfl) hreg_panic (by rfl) hHeld ?_
      apply Exists.intro
      refine ⟨fun w' hw' => ?_, ?_⟩
      · have hf := hall w' hw'
        go_simp
        try go_bits
        exact yieldsV_mk rfl
      simp only [Act.put, List.setIfInBounds_toArray, List.set_cons_zero, List.set_cons_succ]
      refine wpAnyH_ready (rs := [0, 2]) (by kernel_rfl) (by simp) ?_
      refine hreg_event (o := _) rfl (by rfl) (fun K hK => ?_) ?_
      · go_simp
        first
          | (obtain ⟨wa, hwa⟩ : ∃ wn, wn = (w8.alloc (.cells #[] 38)).drew := ⟨_, rfl⟩; have hO : KOwn wa w8.heap.size (.slice (some ⟨w8.heap.size, 0, none⟩) 0 0) [] := by { rw [hwa]; exact Own.empty keyC 32 38 w8 w8.heap.size w8.heap.size rfl (Nat.le_refl _) }; have hb : Below w8.heap.size w8 wa := by { rw [hwa]; exact ((Below.refl _ _).alloc (Nat.le_refl _) _).drew }; rw [← hwa]; clear hwa)
          | skip
        refine hK.out _ _ ?_ (fun hHeld' => ?_)
        · first
            | exact ⟨hb⟩
            | exact hHeld.next hb
            | exact hHeld
            | exact hHeld.alloc _
            | exact hHeld.setCell (by simp <;> omega) _
            | exact (hHeld.alloc _).alloc _
        replace hHeld := hHeld'
        clear hHeld' hK K
        simp only [Act.put, List.setIfInBounds_toArray, List.set_cons_zero, List.set_cons_succ]
        refine wpAnyH_ready (rs := [2]) (by kernel_rfl) (by simp) ?_
        refine hreg_event (o := _) rfl (by rfl) (fun K hK => ?_) ?_
        · go_simp
          first
            | (go_at_call 29; refine (notes_any X _ _ _ (X8.out.below hHeld.out) okx.out).mono ?_; rintro e wn ⟨⟨na, nn, nc, rfl, hN⟩, hb⟩; replace hO := hO.below hb)
            | skip
          refine hK.out _ _ ?_ (fun hHeld' => ?_)
          · first
              | exact hHeld.next hb
              | exact hHeld
              | exact hHeld.alloc _
              | exact hHeld.setCell (by simp <;> omega) _
              | exact (hHeld.alloc _).alloc _
          replace hHeld := hHeld'
          clear hHeld' hK K
          simp only [Act.put, List.setIfInBounds_toArray, List.set_cons_zero, List.set_cons_succ]
          refine wpAnyH_ready (rs := [3]) (by kernel_rfl) (by simp) ?_
          refine hreg_event (o := _) rfl (by rfl) (fun K hK => ?_) ?_
          · go_simp
            first
              | (obtain ⟨u1, n1, c1, wp, hap, hO1, hb1, _, hn1⟩ := app_kk (ty := 39) hO hHeld.out.size na nn nc _ hN hlx.out; rw [hap]; replace hn1 := Box.mk hn1)
              | skip
            refine hK.out _ _ ?_ (fun hHeld' => ?_)
            · first
                | exact ⟨hHeld.out.trans hb1⟩
                | exact hHeld.next hb
                | exact hHeld
                | exact hHeld.alloc _
                | exact hHeld.setCell (by simp <;> omega) _
                | exact (hHeld.alloc _).alloc _
            replace hHeld := hHeld'
            clear hHeld' hK K
            simp only [Act.put, List.setIfInBounds_toArray, List.set_cons_zero, List.set_cons_succ]
            refine wpAnyH_ready (rs := [5]) (by kernel_rfl) (by simp) ?_
            refine hreg_event (o := _) rfl (by rfl) (fun K hK => ?_) ?_
            · go_simp
              first
                | (go_at_call 29; refine (notes_any Y _ _ _ (Y8.out.below hHeld.out) oky.out).mono ?_; rintro e wr ⟨⟨ma, mn, mc, rfl, hM⟩, hb⟩; replace hO1 := hO1.below hb)
                | skip
              refine hK.out _ _ ?_ (fun hHeld' => ?_)
              · first
                  | exact hHeld.next hb
                  | exact hHeld
                  | exact hHeld.alloc _
                  | exact hHeld.setCell (by simp <;> omega) _
                  | exact (hHeld.alloc _).alloc _
              replace hHeld := hHeld'
              clear hHeld' hK K
              simp only [Act.put, List.setIfInBounds_toArray, List.set_cons_zero, List.set_cons_succ]
              refine wpAnyH_ready (rs := [6]) (by kernel_rfl) (by simp) ?_
              refine hreg_event (o := _) rfl (by rfl) (fun K hK => ?_) ?_
              · go_simp
                first
                  | (obtain ⟨u2, n2, c2, wq, hap2, hO2, hb2, _, hn2⟩ := app_kk (ty := 39) hO1 hHeld.out.size ma mn mc _ hM hly.out; rw [hap2]; replace hn2 := Box.mk hn2)
                  | skip
                refine hK.out _ _ ?_ (fun hHeld' => ?_)
                · first
                    | exact ⟨hHeld.out.trans hb2⟩
                    | exact hHeld.next hb
                    | exact hHeld
                    | exact hHeld.alloc _
                    | exact hHeld.setCell (by simp <;> omega) _
                    | exact (hHeld.alloc _).alloc _
                replace hHeld := hHeld'
                clear hHeld' hK K
                simp only [Act.put, List.setIfInBounds_toArray, List.set_cons_zero, List.set_cons_succ]
                refine hreg_take (i := 7) rfl (by kernel_rfl) (by kernel_rfl) (by kernel_rfl) hreg_panic (by rfl) hHeld ?_
                apply Exists.intro
                refine ⟨fun w' hw' => ?_, ?_⟩
                · have hf := hall w' hw'
                  go_simp
                  try go_bits
                  exact yieldsV_mk rfl
                simp only [Act.put, List.setIfInBounds_toArray, List.set_cons_zero, List.set_cons_succ]
                refine wpAnyH_done (by kernel_rfl) ?_ _
                refine NoPanic.normal ?_
                have hSq := hHeld.out
                have hall7 : ∀ w', SinceP wq w' → rowOf w' W.heap.size 0 66 = some (blkC v) ∧ rowOf w' w2.heap.size 0 66 = some (blkC X) ∧ rowOf w' (w2.heap.size + 1) 0 66 = some (blkC Y) ∧ W.heap.size < w'.heap.size ∧ w2.heap.size < w'.heap.size ∧ w2.heap.size + 1 < w'.heap.size := fun w' hw => hall w' ⟨hSq.trans (hw.out.mono hSq.size)⟩
                have Wq := W8.out.trans (hSq.mono W8.out.size)
                have Lq := Box.mk (L8.out.below hSq)
                have Xq := Box.mk (X8.out.below hSq)
                have Yq := Box.mk (Y8.out.below hSq)
                have hKq := Box.mk hO2.sl'.2
                have hnn : (notesL d.txs == [] ++ notesL (d.txs.take i) ++ notesL (d.txs.drop i)) = true := by rw [List.nil_append, ← notesL_append, List.take_append_drop]; exact beq_self_eq_true _
                have hss : sigsN d.txs = sigsN (d.txs.take i) + sigsN (d.txs.drop i) := by rw [← sigsN_append, List.take_append_drop]
                clear hall hHeld hO1 hO2
                clear hSq
                have hall := hall7
                clear hall7
                replace Wq := Box.mk Wq
                replace hnn := Box.mk hnn
                obtain ⟨A, hA⟩ : ∃ A, sigsN (d.txs.take i) = A := ⟨_, rfl⟩
                obtain ⟨C, hC⟩ : ∃ C, sigsN (d.txs.drop i) = C := ⟨_, rfl⟩
                have hA1 := sigsN_le _ okx.out.2
                have hC1 := sigsN_le _ oky.out.2
                have hA2 : (d.txs.take i).length ≤ 40 := okx.out.1
                have hC2 : (d.txs.drop i).length ≤ 40 := oky.out.1
                have hA3 : A ≤ 2400 := by rw [← hA]; exact Nat.le_trans hA1 (by show 60 * (d.txs.take i).length ≤ _; omega)
                have hC3 : C ≤ 2400 := by rw [← hC]; exact Nat.le_trans hC1 (by show 60 * (d.txs.drop i).length ≤ _; omega)
                have hAC : wrap64 ((A : Int) + (C : Int)) = (((A + C : Nat)) : Int) := by rw [IntWalk.wrap64_in _ ⟨by omega, by omega⟩]; omega
                rw [hA, hC] at hss
                have cV : ∀ w, SinceP wq w → Calls Try.prog 31 #[.agg (blkC v).toArray] w (Gives (.int .i64 ((A + C : Nat) : Int)) w) := fun w hw => by rw [← hss]; exact sigs_any v _ _ _ (Lq.out.below hw.out) hk.out
                have cX : ∀ w, SinceP wq w → Calls Try.prog 31 #[.agg (blkC X).toArray] w (Gives (.int .i64 (A : Int)) w) := fun w hw => by rw [← hA]; exact sigs_any X _ _ _ (Xq.out.below hw.out) okx.out
                have cY : ∀ w, SinceP wq w → Calls Try.prog 31 #[.agg (blkC Y).toArray] w (Gives (.int .i64 (C : Int)) w) := fun w hw => by rw [← hC]; exact sigs_any Y _ _ _ (Yq.out.below hw.out) oky.out
                replace cV := Box.mk cV
                replace cX := Box.mk cX
                replace cY := Box.mk cY
                replace hss := Box.mk hss
                replace hA := Box.mk hA
                replace hC := Box.mk hC
                clear hA1 hC1 hA2 hC2
                go_wp2_with fail
                refine hreg_begin (S := SinceP wq) (by kernel_rfl) (SinceP.refl _).drew (fun hHeld => ?_)
                simp only [List.length_cons, List.length_nil, Nat.zero_add, Nat.reduceAdd, Array.replicate]
                refine hreg_take (i := 0) rfl (by kernel_rfl) (by kernel_rfl) (by kernel_rfl) hreg_panic (by rfl) hHeld ?_
                apply Exists.intro
                refine ⟨fun w' hw' => ?_, ?_⟩
                · have hf := hall w' hw'
                  go_simp
                  try go_bits
                  exact yieldsV_mk rfl
                simp only [Act.put, List.setIfInBounds_toArray, List.set_cons_zero, List.set_cons_succ]
                refine hreg_take (i := 2) rfl (by kernel_rfl) (by kernel_rfl) (by kernel_rfl) hreg_panic (by rfl) hHeld ?_
                apply Exists.intro
                refine ⟨fun w' hw' => ?_, ?_⟩
                · have hf := hall w' hw'
                  go_simp
                  try go_bits
                  exact yieldsV_mk rfl
                simp only [Act.put, List.setIfInBounds_toArray, List.set_cons_zero, List.set_cons_succ]
                refine wpAnyH_ready (rs := [1]) (by kernel_rfl) (by simp) ?_
                refine hreg_event (o := _) rfl (by rfl) (fun K hK => ?_) ?_
                · go_simp
                  first
                    | (go_at_call 29; refine (notes_any v _ _ _ (Lq.out.below (Below.refl _ _).drew) hk.out).mono ?_; rintro e wa ⟨⟨ba, bn, bc, rfl, hP⟩, hb⟩)
                    | skip
                  refine hK.out _ _ ?_ (fun hHeld' => ?_)
                  · first
                      | exact hHeld.next hb
                      | exact hHeld
                      | exact hHeld.alloc _
                      | exact hHeld.setCell (by simp <;> omega) _
                      | exact (hHeld.alloc _).alloc _
                  replace hHeld := hHeld'
                  clear hHeld' hK K
                  simp only [Act.put, List.setIfInBounds_toArray, List.set_cons_zero, List.set_cons_succ]
                  refine wpAnyH_ready (rs := [3]) (by kernel_rfl) (by simp) ?_
                  refine hreg_event (o := _) rfl (by rfl) (fun K hK => ?_) ?_
                  · go_simp
                    first
                      | (go_at_call 30; refine (sameK_any ba u2 bn n2 bc c2 _ _ wa hP (hKq.out.below hHeld.out) (by rw [hP.1]; exact hlv.out)).mono ?_; rw [hnn.out]; rintro e wb ⟨rfl, hb⟩)
                      | skip
                    refine hK.out _ _ ?_ (fun hHeld' => ?_)
                    · first
                        | exact hHeld.next hb
                        | exact hHeld
                        | exact hHeld.alloc _
                        | exact hHeld.setCell (by simp <;> omega) _
                        | exact (hHeld.alloc _).alloc _
                    replace hHeld := hHeld'
                    clear hHeld' hK K
                    simp only [Act.put, List.setIfInBounds_toArray, List.set_cons_zero, List.set_cons_succ]
                    refine hreg_take (i := 4) rfl (by kernel_rfl) (by kernel_rfl) (by kernel_rfl) hreg_panic (by rfl) hHeld ?_
                    apply Exists.intro
                    refine ⟨fun w' hw' => ?_, ?_⟩
                    · have hf := hall w' hw'
                      go_simp
                      try go_bits
                      exact yieldsV_mk rfl
                    simp only [Act.put, List.setIfInBounds_toArray, List.set_cons_zero, List.set_cons_succ]
                    refine hreg_take (i := 5) rfl (by kernel_rfl) (by kernel_rfl) (by kernel_rfl) hreg_panic (by rfl) hHeld ?_
                    apply Exists.intro
                    refine ⟨fun w' hw' => ?_, ?_⟩
                    · have hf := hall w' hw'
                      go_simp
                      try go_bits
                      exact yieldsV_mk rfl
                    simp only [Act.put, List.setIfInBounds_toArray, List.set_cons_zero, List.set_cons_succ]
                    refine hreg_take (i := 7) rfl (by kernel_rfl) (by kernel_rfl) (by kernel_rfl) hreg_panic (by rfl) hHeld ?_
                    apply Exists.intro
                    refine ⟨fun w' hw' => ?_, ?_⟩
                    · have hf := hall w' hw'
                      go_simp
                      try go_bits
                      exact yieldsV_mk rfl
                    simp only [Act.put, List.setIfInBounds_toArray, List.set_cons_zero, List.set_cons_succ]
                    refine hreg_take (i := 9) rfl (by kernel_rfl) (by kernel_rfl) (by kernel_rfl) hreg_panic (by rfl) hHeld ?_
                    apply Exists.intro
                    refine ⟨fun w' hw' => ?_, ?_⟩
                    · have hf := hall w' hw'
                      go_simp
                      try go_bits
                      exact yieldsV_mk rfl
                    simp only [Act.put, List.setIfInBounds_toArray, List.set_cons_zero, List.set_cons_succ]
                    refine wpAnyH_ready (rs := [6]) (by kernel_rfl) (by simp) ?_
                    refine hreg_event (o := _) rfl (by rfl) (fun K hK => ?_) ?_
                    · go_simp
                      first
                        | (go_at_call 31; refine (cV.out _ hHeld).mono ?_; rintro e wc ⟨rfl, hb⟩)
                        | skip
                      refine hK.out _ _ ?_ (fun hHeld' => ?_)
                      · first
                          | exact hHeld.next hb
                          | exact hHeld
                          | exact hHeld.alloc _
                          | exact hHeld.setCell (by simp <;> omega) _
                          | exact (hHeld.alloc _).alloc _
                      replace hHeld := hHeld'
                      clear hHeld' hK K
                      simp only [Act.put, List.setIfInBounds_toArray, List.set_cons_zero, List.set_cons_succ]
                      refine wpAnyH_ready (rs := [8]) (by kernel_rfl) (by simp) ?_
                      refine hreg_event (o := _) rfl (by rfl) (fun K hK => ?_) ?_
                      · go_simp
                        first
                          | (go_at_call 31; refine (cX.out _ hHeld).mono ?_; rintro e wd ⟨rfl, hb⟩)
                          | skip
                        refine hK.out _ _ ?_ (fun hHeld' => ?_)
                        · first
                            | exact hHeld.next hb
                            | exact hHeld
                            | exact hHeld.alloc _
                            | exact hHeld.setCell (by simp <;> omega) _
                            | exact (hHeld.alloc _).alloc _
                        replace hHeld := hHeld'
                        clear hHeld' hK K
                        simp only [Act.put, List.setIfInBounds_toArray, List.set_cons_zero, List.set_cons_succ]
                        refine wpAnyH_ready (rs := [10]) (by kernel_rfl) (by simp) ?_
                        refine hreg_event (o := _) rfl (by rfl) (fun K hK => ?_) ?_
                        · go_simp
                          first
                            | (go_at_call 31; refine (cY.out _ hHeld).mono ?_; rintro e we ⟨rfl, hb⟩)
                            | skip
                          refine hK.out _ _ ?_ (fun hHeld' => ?_)
                          · first
                              | exact hHeld.next hb
                              | exact hHeld
                              | exact hHeld.alloc _
                              | exact hHeld.setCell (by simp <;> omega) _
                              | exact (hHeld.alloc _).alloc _
                          replace hHeld := hHeld'
                          clear hHeld' hK K
                          simp only [Act.put, List.setIfInBounds_toArray, List.set_cons_zero, List.set_cons_succ]
                          refine hreg_take (i := 11) rfl (by kernel_rfl) (by kernel_rfl) (by kernel_rfl) hreg_panic (by rfl) hHeld ?_
                          apply Exists.intro
                          refine ⟨fun w' hw' => ?_, ?_⟩
                          · have hf := hall w' hw'
                            go_simp
                            try go_bits
                            exact yieldsV_mk rfl
                          simp only [Act.put, List.setIfInBounds_toArray, List.set_cons_zero, List.set_cons_succ]
                          refine hreg_take (i := 12) rfl (by kernel_rfl) (by kernel_rfl) (by kernel_rfl) hreg_panic (by rfl) hHeld ?_
                          apply Exists.intro
                          refine ⟨fun w' hw' => ?_, ?_⟩
                          · have hf := hall w' hw'
                            go_simp
                            try go_bits
                            exact yieldsV_mk rfl
                          simp only [Act.put, List.setIfInBounds_toArray, List.set_cons_zero, List.set_cons_succ]
                          refine hreg_take (i := 13) rfl (by kernel_rfl) (by kernel_rfl) (by kernel_rfl) hreg_panic (by rfl) hHeld ?_
                          apply Exists.intro
                          refine ⟨fun w' hw' => ?_, ?_⟩
                          · have hf := hall w' hw'
                            go_simp
                            try go_bits
                            exact yieldsV_mk rfl
                          simp only [Act.put, List.setIfInBounds_toArray, List.set_cons_zero, List.set_cons_succ]
                          refine hreg_take (i := 14) rfl (by kernel_rfl) (by kernel_rfl) (by kernel_rfl) hreg_panic (by rfl) hHeld ?_
                          apply Exists.intro
                          refine ⟨fun w' hw' => ?_, ?_⟩
                          · have hf := hall w' hw'
                            go_simp
                            try go_bits
                            exact yieldsV_mk rfl
                          simp only [Act.put, List.setIfInBounds_toArray, List.set_cons_zero, List.set_cons_succ]
                          refine hreg_take (i := 15) rfl (by kernel_rfl) (by kernel_rfl) (by kernel_rfl) hreg_panic (by rfl) hHeld ?_
                          apply Exists.intro
                          refine ⟨fun w' hw' => ?_, ?_⟩
                          · have hf := hall w' hw'
                            go_simp
                            try go_bits
                            exact yieldsV_mk rfl
                          simp only [Act.put, List.setIfInBounds_toArray, List.set_cons_zero, List.set_cons_succ]
                          refine wpAnyH_ready (rs := [16]) (by kernel_rfl) (by simp) ?_
                          refine hreg_event (o := _) rfl (by rfl) (fun K hK => ?_) ?_
                          · go_simp
                            first
                              | skip
                            refine hK.out _ _ ?_ (fun hHeld' => ?_)
                            · first
                                | exact hHeld.next hb
                                | exact hHeld
                                | exact hHeld.alloc _
                                | exact hHeld.setCell (by simp <;> omega) _
                                | exact (hHeld.alloc _).alloc _
                            replace hHeld := hHeld'
                            clear hHeld' hK K
                            simp only [Act.put, List.setIfInBounds_toArray, List.set_cons_zero, List.set_cons_succ]
                            refine hreg_take (i := 17) rfl (by kernel_rfl) (by kernel_rfl) (by kernel_rfl) hreg_panic (by rfl) hHeld ?_
                            apply Exists.intro
                            refine ⟨fun w' hw' => ?_, ?_⟩
                            · have hf := hall w' hw'
                              go_simp
                              try go_bits
                              exact yieldsV_mk rfl
                            simp only [Act.put, List.setIfInBounds_toArray, List.set_cons_zero, List.set_cons_succ]
                            refine wpAnyH_ready (rs := [18]) (by kernel_rfl) (by simp) ?_
                            refine hreg_event (o := _) rfl (by rfl) (fun K hK => ?_) ?_
                            · go_simp
                              first
                                | skip
                              refine hK.out _ _ ?_ (fun hHeld' => ?_)
                              · first
                                  | exact hHeld.next hb
                                  | exact hHeld
                                  | exact hHeld.alloc _
                                  | exact hHeld.setCell (by simp <;> omega) _
                                  | exact (hHeld.alloc _).alloc _
                              replace hHeld := hHeld'
                              clear hHeld' hK K
                              simp only [Act.put, List.setIfInBounds_toArray, List.set_cons_zero, List.set_cons_succ]
                              refine hreg_take (i := 19) rfl (by kernel_rfl) (by kernel_rfl) (by kernel_rfl) hreg_panic (by rfl) hHeld ?_
                              apply Exists.intro
                              refine ⟨fun w' hw' => ?_, ?_⟩
                              · have hf := hall w' hw'
                                go_simp
                                try go_bits
                                exact yieldsV_mk rfl
                              simp only [Act.put, List.setIfInBounds_toArray, List.set_cons_zero, List.set_cons_succ]
                              refine wpAnyH_ready (rs := [20]) (by kernel_rfl) (by simp) ?_
                              refine hreg_event (o := _) rfl (by rfl) (fun K hK => ?_) ?_
                              · go_simp
                                first
                                  | (go_at_call 31; refine (sig0_any we).mono ?_; rintro e wf ⟨rfl, hb⟩)
                                  | skip
                                refine hK.out _ _ ?_ (fun hHeld' => ?_)
                                · first
                                    | exact hHeld.next hb
                                    | exact hHeld
                                    | exact hHeld.alloc _
                                    | exact hHeld.setCell (by simp <;> omega) _
                                    | exact (hHeld.alloc _).alloc _
                                replace hHeld := hHeld'
                                clear hHeld' hK K
                                simp only [Act.put, List.setIfInBounds_toArray, List.set_cons_zero, List.set_cons_succ]
                                refine hreg_take (i := 21) rfl (by kernel_rfl) (by kernel_rfl) (by kernel_rfl) hreg_panic (by rfl) hHeld ?_
                                apply Exists.intro
                                refine ⟨fun w' hw' => ?_, ?_⟩
                                · have hf := hall w' hw'
                                  go_simp
                                  try go_bits
                                  exact yieldsV_mk rfl
                                simp only [Act.put, List.setIfInBounds_toArray, List.set_cons_zero, List.set_cons_succ]
                                refine hreg_take (i := 22) rfl (by kernel_rfl) (by kernel_rfl) (by kernel_rfl) hreg_panic (by rfl) hHeld ?_
                                apply Exists.intro
                                refine ⟨fun w' hw' => ?_, ?_⟩
                                · have hf := hall w' hw'
                                  go_simp
                                  try go_bits
                                  exact yieldsV_mk rfl
                                simp only [Act.put, List.setIfInBounds_toArray, List.set_cons_zero, List.set_cons_succ]
                                refine hreg_take (i := 23) rfl (by kernel_rfl) (by kernel_rfl) (by kernel_rfl) hreg_panic (by rfl) hHeld ?_
                                apply Exists.intro
                                refine ⟨fun w' hw' => ?_, ?_⟩
                                · have hf := hall w' hw'
                                  go_simp
                                  try go_bits
                                  exact yieldsV_mk rfl
                                simp only [Act.put, List.setIfInBounds_toArray, List.set_cons_zero, List.set_cons_succ]
                                refine wpAnyH_done (by kernel_rfl) ?_ _
                                refine NoPanic.normal ?_
                                have Bf := Wq.out.trans (hHeld.out.mono Wq.out.size)
                                go_wp2
                                go_ret
                                exact gives_bool rfl Bf
                              exact AllReadyH.nil
                            exact AllReadyH.nil
                          exact AllReadyH.nil
                        exact AllReadyH.nil
                      exact AllReadyH.nil
                    exact AllReadyH.nil
                  exact AllReadyH.nil
                exact AllReadyH.nil
              exact AllReadyH.nil
            exact AllReadyH.nil
          exact AllReadyH.nil
        exact AllReadyH.nil
      refine hreg_event (o := _) rfl (by rfl) (fun K hK => ?_) ?_
      · go_simp
        first
          | (go_at_call 29; refine (notes_any X _ _ _ (X8.out.below (Below.refl _ _).drew) okx.out).mono ?_; rintro e wn ⟨⟨na, nn, nc, rfl, hN⟩, hb⟩)
          | skip
        refine hK.out _ _ ?_ (fun hHeld' => ?_)
        · first
            | exact hHeld.next hb
            | exact hHeld
            | exact hHeld.alloc _
            | exact hHeld.setCell (by simp <;> omega) _
            | exact (hHeld.alloc _).alloc _
        replace hHeld := hHeld'
        clear hHeld' hK K
        simp only [Act.put, List.setIfInBounds_toArray, List.set_cons_zero, List.set_cons_succ]
        refine wpAnyH_ready (rs := [0]) (by kernel_rfl) (by simp) ?_
        refine hreg_event (o := _) rfl (by rfl) (fun K hK => ?_) ?_
        · go_simp
          first
            | (obtain ⟨wm, hwm⟩ : ∃ wm, wm = wn.alloc (.cells #[] 38) := ⟨_, rfl⟩; have hO : KOwn wm w8.heap.size (.slice (some ⟨wn.heap.size, 0, none⟩) 0 0) [] := by { rw [hwm]; exact Own.empty keyC 32 38 wn w8.heap.size wn.heap.size rfl hHeld.out.size }; have hb : Below wn.heap.size wn wm := by { rw [hwm]; exact (Below.refl _ _).alloc (Nat.le_refl _) _ }; replace hN := hN.below hb; rw [← hwm]; clear hwm)
            | skip
          refine hK.out _ _ ?_ (fun hHeld' => ?_)
          · first
              | exact hHeld.next hb
              | exact hHeld
              | exact hHeld.alloc _
              | exact hHeld.setCell (by simp <;> omega) _
              | exact (hHeld.alloc _).alloc _
          replace hHeld := hHeld'
          clear hHeld' hK K
          simp only [Act.put, List.setIfInBounds_toArray, List.set_cons_zero, List.set_cons_succ]
          refine wpAnyH_ready (rs := [3]) (by kernel_rfl) (by simp) ?_
          refine hreg_event (o := _) rfl (by rfl) (fun K hK => ?_) ?_
          · go_simp
            first
              | (obtain ⟨u1, n1, c1, wp, hap, hO1, hb1, _, hn1⟩ := app_kk (ty := 39) hO hHeld.out.size na nn nc _ hN hlx.out; rw [hap]; replace hn1 := Box.mk hn1)
              | skip
            refine hK.out _ _ ?_ (fun hHeld' => ?_)
            · first
                | exact ⟨hHeld.out.trans hb1⟩
                | exact hHeld.next hb
                | exact hHeld
                | exact hHeld.alloc _
                | exact hHeld.setCell (by simp <;> omega) _
                | exact (hHeld.alloc _).alloc _
            replace hHeld := hHeld'
            clear hHeld' hK K
            simp only [Act.put, List.setIfInBounds_toArray, List.set_cons_zero, List.set_cons_succ]
            refine wpAnyH_ready (rs := [5]) (by kernel_rfl) (by simp) ?_
            refine hreg_event (o := _) rfl (by rfl) (fun K hK => ?_) ?_
            · go_simp
              first
                | (go_at_call 29; refine (notes_any Y _ _ _ (Y8.out.below hHeld.out) oky.out).mono ?_; rintro e wr ⟨⟨ma, mn, mc, rfl, hM⟩, hb⟩; replace hO1 := hO1.below hb)
                | skip
              refine hK.out _ _ ?_ (fun hHeld' => ?_)
              · first
                  | exact hHeld.next hb
                  | exact hHeld
                  | exact hHeld.alloc _
                  | exact hHeld.setCell (by simp <;> omega) _
                  | exact (hHeld.alloc _).alloc _
              replace hHeld := hHeld'
              clear hHeld' hK K
              simp only [Act.put, List.setIfInBounds_toArray, List.set_cons_zero, List.set_cons_succ]
              refine wpAnyH_ready (rs := [6]) (by kernel_rfl) (by simp) ?_
              refine hreg_event (o := _) rfl (by rfl) (fun K hK => ?_) ?_
              · go_simp
                first
                  | (obtain ⟨u2, n2, c2, wq, hap2, hO2, hb2, _, hn2⟩ := app_kk (ty := 39) hO1 hHeld.out.size ma mn mc _ hM hly.out; rw [hap2]; replace hn2 := Box.mk hn2)
                  | skip
                refine hK.out _ _ ?_ (fun hHeld' => ?_)
                · first
                    | exact ⟨hHeld.out.trans hb2⟩
                    | exact hHeld.next hb
                    | exact hHeld
                    | exact hHeld.alloc _
                    | exact hHeld.setCell (by simp <;> omega) _
                    | exact (hHeld.alloc _).alloc _
                replace hHeld := hHeld'
                clear hHeld' hK K
                simp only [Act.put, List.setIfInBounds_toArray, List.set_cons_zero, List.set_cons_succ]
                refine hreg_take (i := 7) rfl (by kernel_rfl) (by kernel_rfl) (by kernel_rfl) hreg_panic (by rfl) hHeld ?_
                apply Exists.intro
                refine ⟨fun w' hw' => ?_, ?_⟩
                · have hf := hall w' hw'
                  go_simp
                  try go_bits
                  exact yieldsV_mk rfl
                simp only [Act.put, List.setIfInBounds_toArray, List.set_cons_zero, List.set_cons_succ]
                refine wpAnyH_done (by kernel_rfl) ?_ _
                refine NoPanic.normal ?_
                have hSq := hHeld.out
                have hall7 : ∀ w', SinceP wq w' → rowOf w' W.heap.size 0 66 = some (blkC v) ∧ rowOf w' w2.heap.size 0 66 = some (blkC X) ∧ rowOf w' (w2.heap.size + 1) 0 66 = some (blkC Y) ∧ W.heap.size < w'.heap.size ∧ w2.heap.size < w'.heap.size ∧ w2.heap.size + 1 < w'.heap.size := fun w' hw => hall w' ⟨hSq.trans (hw.out.mono hSq.size)⟩
                have Wq := W8.out.trans (hSq.mono W8.out.size)
                have Lq := Box.mk (L8.out.below hSq)
                have Xq := Box.mk (X8.out.below hSq)
                have Yq := Box.mk (Y8.out.below hSq)
                have hKq := Box.mk hO2.sl'.2
                have hnn : (notesL d.txs == [] ++ notesL (d.txs.take i) ++ notesL (d.txs.drop i)) = true := by rw [List.nil_append, ← notesL_append, List.take_append_drop]; exact beq_self_eq_true _
                have hss : sigsN d.txs = sigsN (d.txs.take i) + sigsN (d.txs.drop i) := by rw [← sigsN_append, List.take_append_drop]
                clear hall hHeld hO1 hO2
                clear hSq
                have hall := hall7
                clear hall7
                replace Wq := Box.mk Wq
                replace hnn := Box.mk hnn
                obtain ⟨A, hA⟩ : ∃ A, sigsN (d.txs.take i) = A := ⟨_, rfl⟩
                obtain ⟨C, hC⟩ : ∃ C, sigsN (d.txs.drop i) = C := ⟨_, rfl⟩
                have hA1 := sigsN_le _ okx.out.2
                have hC1 := sigsN_le _ oky.out.2
                have hA2 : (d.txs.take i).length ≤ 40 := okx.out.1
                have hC2 : (d.txs.drop i).length ≤ 40 := oky.out.1
                have hA3 : A ≤ 2400 := by rw [← hA]; exact Nat.le_trans hA1 (by show 60 * (d.txs.take i).length ≤ _; omega)
                have hC3 : C ≤ 2400 := by rw [← hC]; exact Nat.le_trans hC1 (by show 60 * (d.txs.drop i).length ≤ _; omega)
                have hAC : wrap64 ((A : Int) + (C : Int)) = (((A + C : Nat)) : Int) := by rw [IntWalk.wrap64_in _ ⟨by omega, by omega⟩]; omega
                rw [hA, hC] at hss
                have cV : ∀ w, SinceP wq w → Calls Try.prog 31 #[.agg (blkC v).toArray] w (Gives (.int .i64 ((A + C : Nat) : Int)) w) := fun w hw => by rw [← hss]; exact sigs_any v _ _ _ (Lq.out.below hw.out) hk.out
                have cX : ∀ w, SinceP wq w → Calls Try.prog 31 #[.agg (blkC X).toArray] w (Gives (.int .i64 (A : Int)) w) := fun w hw => by rw [← hA]; exact sigs_any X _ _ _ (Xq.out.below hw.out) okx.out
                have cY : ∀ w, SinceP wq w → Calls Try.prog 31 #[.agg (blkC Y).toArray] w (Gives (.int .i64 (C : Int)) w) := fun w hw => by rw [← hC]; exact sigs_any Y _ _ _ (Yq.out.below hw.out) oky.out
                replace cV := Box.mk cV
                replace cX := Box.mk cX
                replace cY := Box.mk cY
                replace hss := Box.mk hss
                replace hA := Box.mk hA
                replace hC := Box.mk hC
                clear hA1 hC1 hA2 hC2
                go_wp2_with fail
                refine hreg_begin (S := SinceP wq) (by kernel_rfl) (SinceP.refl _).drew (fun hHeld => ?_)
                simp only [List.length_cons, List.length_nil, Nat.zero_add, Nat.reduceAdd, Array.replicate]
                refine hreg_take (i := 0) rfl (by kernel_rfl) (by kernel_rfl) (by kernel_rfl) hreg_panic (by rfl) hHeld ?_
                apply Exists.intro
                refine ⟨fun w' hw' => ?_, ?_⟩
                · have hf := hall w' hw'
                  go_simp
                  try go_bits
                  exact yieldsV_mk rfl
                simp only [Act.put, List.setIfInBounds_toArray, List.set_cons_zero, List.set_cons_succ]
                refine hreg_take (i := 2) rfl (by kernel_rfl) (by kernel_rfl) (by kernel_rfl) hreg_panic (by rfl) hHeld ?_
                apply Exists.intro
                refine ⟨fun w' hw' => ?_, ?_⟩
                · have hf := hall w' hw'
                  go_simp
                  try go_bits
                  exact yieldsV_mk rfl
                simp only [Act.put, List.setIfInBounds_toArray, List.set_cons_zero, List.set_cons_succ]
                refine wpAnyH_ready (rs := [1]) (by kernel_rfl) (by simp) ?_
                refine hreg_event (o := _) rfl (by rfl) (fun K hK => ?_) ?_
                · go_simp
                  first
                    | (go_at_call 29; refine (notes_any v _ _ _ (Lq.out.below (Below.refl _ _).drew) hk.out).mono ?_; rintro e wa ⟨⟨ba, bn, bc, rfl, hP⟩, hb⟩)
                    | skip
                  refine hK.out _ _ ?_ (fun hHeld' => ?_)
                  · first
                      | exact hHeld.next hb
                      | exact hHeld
                      | exact hHeld.alloc _
                      | exact hHeld.setCell (by simp <;> omega) _
                      | exact (hHeld.alloc _).alloc _
                  replace hHeld := hHeld'
                  clear hHeld' hK K
                  simp only [Act.put, List.setIfInBounds_toArray, List.set_cons_zero, List.set_cons_succ]
                  refine wpAnyH_ready (rs := [3]) (by kernel_rfl) (by simp) ?_
                  refine hreg_event (o := _) rfl (by rfl) (fun K hK => ?_) ?_
                  · go_simp
                    first
                      | (go_at_call 30; refine (sameK_any ba u2 bn n2 bc c2 _ _ wa hP (hKq.out.below hHeld.out) (by rw [hP.1]; exact hlv.out)).mono ?_; rw [hnn.out]; rintro e wb ⟨rfl, hb⟩)
                      | skip
                    refine hK.out _ _ ?_ (fun hHeld' => ?_)
                    · first
                        | exact hHeld.next hb
                        | exact hHeld
                        | exact hHeld.alloc _
                        | exact hHeld.setCell (by simp <;> omega) _
                        | exact (hHeld.alloc _).alloc _
                    replace hHeld := hHeld'
                    clear hHeld' hK K
                    simp only [Act.put, List.setIfInBounds_toArray, List.set_cons_zero, List.set_cons_succ]
                    refine hreg_take (i := 4) rfl (by kernel_rfl) (by kernel_rfl) (by kernel_rfl) hreg_panic (by rfl) hHeld ?_
                    apply Exists.intro
                    refine ⟨fun w' hw' => ?_, ?_⟩
                    · have hf := hall w' hw'
                      go_simp
                      try go_bits
                      exact yieldsV_mk rfl
                    simp only [Act.put, List.setIfInBounds_toArray, List.set_cons_zero, List.set_cons_succ]
                    refine hreg_take (i := 5) rfl (by kernel_rfl) (by kernel_rfl) (by kernel_rfl) hreg_panic (by rfl) hHeld ?_
                    apply Exists.intro
                    refine ⟨fun w' hw' => ?_, ?_⟩
                    · have hf := hall w' hw'
                      go_simp
                      try go_bits
                      exact yieldsV_mk rfl
                    simp only [Act.put, List.setIfInBounds_toArray, List.set_cons_zero, List.set_cons_succ]
                    refine hreg_take (i := 7) rfl (by kernel_rfl) (by kernel_rfl) (by kernel_rfl) hreg_panic (by rfl) hHeld ?_
                    apply Exists.intro
                    refine ⟨fun w' hw' => ?_, ?_⟩
                    · have hf := hall w' hw'
                      go_simp
                      try go_bits
                      exact yieldsV_mk rfl
                    simp only [Act.put, List.setIfInBounds_toArray, List.set_cons_zero, List.set_cons_succ]
                    refine hreg_take (i := 9) rfl (by kernel_rfl) (by kernel_rfl) (by kernel_rfl) hreg_panic (by rfl) hHeld ?_
                    apply Exists.intro
                    refine ⟨fun w' hw' => ?_, ?_⟩
                    · have hf := hall w' hw'
                      go_simp
                      try go_bits
                      exact yieldsV_mk rfl
                    simp only [Act.put, List.setIfInBounds_toArray, List.set_cons_zero, List.set_cons_succ]
                    refine wpAnyH_ready (rs := [6]) (by kernel_rfl) (by simp) ?_
                    refine hreg_event (o := _) rfl (by rfl) (fun K hK => ?_) ?_
                    · go_simp
                      first
                        | (go_at_call 31; refine (cV.out _ hHeld).mono ?_; rintro e wc ⟨rfl, hb⟩)
                        | skip
                      refine hK.out _ _ ?_ (fun hHeld' => ?_)
                      · first
                          | exact hHeld.next hb
                          | exact hHeld
                          | exact hHeld.alloc _
                          | exact hHeld.setCell (by simp <;> omega) _
                          | exact (hHeld.alloc _).alloc _
                      replace hHeld := hHeld'
                      clear hHeld' hK K
                      simp only [Act.put, List.setIfInBounds_toArray, List.set_cons_zero, List.set_cons_succ]
                      refine wpAnyH_ready (rs := [8]) (by kernel_rfl) (by simp) ?_
                      refine hreg_event (o := _) rfl (by rfl) (fun K hK => ?_) ?_
                      · go_simp
                        first
                          | (go_at_call 31; refine (cX.out _ hHeld).mono ?_; rintro e wd ⟨rfl, hb⟩)
                          | skip
                        refine hK.out _ _ ?_ (fun hHeld' => ?_)
                        · first
                            | exact hHeld.next hb
                            | exact hHeld
                            | exact hHeld.alloc _
                            | exact hHeld.setCell (by simp <;> omega) _
                            | exact (hHeld.alloc _).alloc _
                        replace hHeld := hHeld'
                        clear hHeld' hK K
                        simp only [Act.put, List.setIfInBounds_toArray, List.set_cons_zero, List.set_cons_succ]
                        refine wpAnyH_ready (rs := [10]) (by kernel_rfl) (by simp) ?_
                        refine hreg_event (o := _) rfl (by rfl) (fun K hK => ?_) ?_
                        · go_simp
                          first
                            | (go_at_call 31; refine (cY.out _ hHeld).mono ?_; rintro e we ⟨rfl, hb⟩)
                            | skip
                          refine hK.out _ _ ?_ (fun hHeld' => ?_)
                          · first
                              | exact hHeld.next hb
                              | exact hHeld
                              | exact hHeld.alloc _
                              | exact hHeld.setCell (by simp <;> omega) _
                              | exact (hHeld.alloc _).alloc _
                          replace hHeld := hHeld'
                          clear hHeld' hK K
                          simp only [Act.put, List.setIfInBounds_toArray, List.set_cons_zero, List.set_cons_succ]
                          refine hreg_take (i := 11) rfl (by kernel_rfl) (by kernel_rfl) (by kernel_rfl) hreg_panic (by rfl) hHeld ?_
                          apply Exists.intro
                          refine ⟨fun w' hw' => ?_, ?_⟩
                          · have hf := hall w' hw'
                            go_simp
                            try go_bits
                            exact yieldsV_mk rfl
                          simp only [Act.put, List.setIfInBounds_toArray, List.set_cons_zero, List.set_cons_succ]
                          refine hreg_take (i := 12) rfl (by kernel_rfl) (by kernel_rfl) (by kernel_rfl) hreg_panic (by rfl) hHeld ?_
                          apply Exists.intro
                          refine ⟨fun w' hw' => ?_, ?_⟩
                          · have hf := hall w' hw'
                            go_simp
                            try go_bits
                            exact yieldsV_mk rfl
                          simp only [Act.put, List.setIfInBounds_toArray, List.set_cons_zero, List.set_cons_succ]
                          refine hreg_take (i := 13) rfl (by kernel_rfl) (by kernel_rfl) (by kernel_rfl) hreg_panic (by rfl) hHeld ?_
                          apply Exists.intro
                          refine ⟨fun w' hw' => ?_, ?_⟩
                          · have hf := hall w' hw'
                            go_simp
                            try go_bits
                            exact yieldsV_mk rfl
                          simp only [Act.put, List.setIfInBounds_toArray, List.set_cons_zero, List.set_cons_succ]
                          refine hreg_take (i := 14) rfl (by kernel_rfl) (by kernel_rfl) (by kernel_rfl) hreg_panic (by rfl) hHeld ?_
                          apply Exists.intro
                          refine ⟨fun w' hw' => ?_, ?_⟩
                          · have hf := hall w' hw'
                            go_simp
                            try go_bits
                            exact yieldsV_mk rfl
                          simp only [Act.put, List.setIfInBounds_toArray, List.set_cons_zero, List.set_cons_succ]
                          refine hreg_take (i := 15) rfl (by kernel_rfl) (by kernel_rfl) (by kernel_rfl) hreg_panic (by rfl) hHeld ?_
                          apply Exists.intro
                          refine ⟨fun w' hw' => ?_, ?_⟩
                          · have hf := hall w' hw'
                            go_simp
                            try go_bits
                            exact yieldsV_mk rfl
                          simp only [Act.put, List.setIfInBounds_toArray, List.set_cons_zero, List.set_cons_succ]
                          refine wpAnyH_ready (rs := [16]) (by kernel_rfl) (by simp) ?_
                          refine hreg_event (o := _) rfl (by rfl) (fun K hK => ?_) ?_
                          · go_simp
                            first
                              | skip
                            refine hK.out _ _ ?_ (fun hHeld' => ?_)
                            · first
                                | exact hHeld.next hb
                                | exact hHeld
                                | exact hHeld.alloc _
                                | exact hHeld.setCell (by simp <;> omega) _
                                | exact (hHeld.alloc _).alloc _
                            replace hHeld := hHeld'
                            clear hHeld' hK K
                            simp only [Act.put, List.setIfInBounds_toArray, List.set_cons_zero, List.set_cons_succ]
                            refine hreg_take (i := 17) rfl (by kernel_rfl) (by kernel_rfl) (by kernel_rfl) hreg_panic (by rfl) hHeld ?_
                            apply Exists.intro
                            refine ⟨fun w' hw' => ?_, ?_⟩
                            · have hf := hall w' hw'
                              go_simp
                              try go_bits
                              exact yieldsV_mk rfl
                            simp only [Act.put, List.setIfInBounds_toArray, List.set_cons_zero, List.set_cons_succ]
                            refine wpAnyH_ready (rs := [18]) (by kernel_rfl) (by simp) ?_
                            refine hreg_event (o := _) rfl (by rfl) (fun K hK => ?_) ?_
                            · go_simp
                              first
                                | skip
                              refine hK.out _ _ ?_ (fun hHeld' => ?_)
                              · first
                                  | exact hHeld.next hb
                                  | exact hHeld
                                  | exact hHeld.alloc _
                                  | exact hHeld.setCell (by simp <;> omega) _
                                  | exact (hHeld.alloc _).alloc _
                              replace hHeld := hHeld'
                              clear hHeld' hK K
                              simp only [Act.put, List.setIfInBounds_toArray, List.set_cons_zero, List.set_cons_succ]
                              refine hreg_take (i := 19) rfl (by kernel_rfl) (by kernel_rfl) (by kernel_rfl) hreg_panic (by rfl) hHeld ?_
                              apply Exists.intro
                              refine ⟨fun w' hw' => ?_, ?_⟩
                              · have hf := hall w' hw'
                                go_simp
                                try go_bits
                                exact yieldsV_mk rfl
                              simp only [Act.put, List.setIfInBounds_toArray, List.set_cons_zero, List.set_cons_succ]
                              refine wpAnyH_ready (rs := [20]) (by kernel_rfl) (by simp) ?_
                              refine hreg_event (o := _) rfl (by rfl) (fun K hK => ?_) ?_
                              · go_simp
                                first
                                  | (go_at_call 31; refine (sig0_any we).mono ?_; rintro e wf ⟨rfl, hb⟩)
                                  | skip
                                refine hK.out _ _ ?_ (fun hHeld' => ?_)
                                · first
                                    | exact hHeld.next hb
                                    | exact hHeld
                                    | exact hHeld.alloc _
                                    | exact hHeld.setCell (by simp <;> omega) _
                                    | exact (hHeld.alloc _).alloc _
                                replace hHeld := hHeld'
                                clear hHeld' hK K
                                simp only [Act.put, List.setIfInBounds_toArray, List.set_cons_zero, List.set_cons_succ]
                                refine hreg_take (i := 21) rfl (by kernel_rfl) (by kernel_rfl) (by kernel_rfl) hreg_panic (by rfl) hHeld ?_
                                apply Exists.intro
                                refine ⟨fun w' hw' => ?_, ?_⟩
                                · have hf := hall w' hw'
                                  go_simp
                                  try go_bits
                                  exact yieldsV_mk rfl
                                simp only [Act.put, List.setIfInBounds_toArray, List.set_cons_zero, List.set_cons_succ]
                                refine hreg_take (i := 22) rfl (by kernel_rfl) (by kernel_rfl) (by kernel_rfl) hreg_panic (by rfl) hHeld ?_
                                apply Exists.intro
                                refine ⟨fun w' hw' => ?_, ?_⟩
                                · have hf := hall w' hw'
                                  go_simp
                                  try go_bits
                                  exact yieldsV_mk rfl
                                simp only [Act.put, List.setIfInBounds_toArray, List.set_cons_zero, List.set_cons_succ]
                                refine hreg_take (i := 23) rfl (by kernel_rfl) (by kernel_rfl) (by kernel_rfl) hreg_panic (by rfl) hHeld ?_
                                apply Exists.intro
                                refine ⟨fun w' hw' => ?_, ?_⟩
                                · have hf := hall w' hw'
                                  go_simp
                                  try go_bits
                                  exact yieldsV_mk rfl
                                simp only [Act.put, List.setIfInBounds_toArray, List.set_cons_zero, List.set_cons_succ]
                                refine wpAnyH_done (by kernel_rfl) ?_ _
                                refine NoPanic.normal ?_
                                have Bf := Wq.out.trans (hHeld.out.mono Wq.out.size)
                                go_wp2
                                go_ret
                                exact gives_bool rfl Bf
                              exact AllReadyH.nil
                            exact AllReadyH.nil
                          exact AllReadyH.nil
                        exact AllReadyH.nil
                      exact AllReadyH.nil
                    exact AllReadyH.nil
                  exact AllReadyH.nil
                exact AllReadyH.nil
              exact AllReadyH.nil
            exact AllReadyH.nil
          exact AllReadyH.nil
        exact AllReadyH.nil
      exact AllReadyH.nil
      done
    · have hcb : i < v.txs.cap := by omega
      have Y0 : BlkL w2 ⟨zeroKey, zeroKey, 0, ⟨v.txs.a.map fun x => x.add (i * 38), d.txs.length - i, v.txs.cap - i⟩⟩ (qs.drop i) ⟨zeroKey, zeroKey, 0, d.txs.drop i⟩ := (h.out.below W2).ofSL i (by
        have := SL.drops (fun q : TxV × TxD => txC_length q.1) (h.out.below W2).txs i (by rw [h.out.vlen]; exact hil) hcc
        rw [h.out.vlen] at this; exact this)
      have X0 := (h.out.below W2).takes i hil
      have okx := hk.out.takes i
      have oky := hk.out.drops i
      obtain ⟨Y, hY⟩ : ∃ Y : BlkV, Y = ⟨zeroKey, zeroKey, 0, ⟨v.txs.a.map fun x => x.add (i * 38), d.txs.length - i, v.txs.cap - i⟩⟩ := ⟨_, rfl⟩
      rw [← hY] at Y0
      replace Y0 := Box.mk Y0
      replace okx := Box.mk okx
      replace oky := Box.mk oky
      replace hY := Box.mk hY
      replace X0 := Box.mk X0
      go_wp2_with fail
      replace hY := hY.out
      replace X0 := X0.out
      rw [← hY]
      obtain ⟨X, hX⟩ : ∃ X : BlkV, X = ⟨zeroKey, zeroKey, 0, ⟨v.txs.a, i, v.txs.cap⟩⟩ := ⟨_, rfl⟩
      rw [← hX] at X0 ⊢
      replace X0 := Box.mk X0
      replace hX := Box.mk hX
      replace hY := Box.mk hY
      have B2 : Below w2.heap.size w2 ((w2.alloc (.cells (blkC X).toArray 50)).alloc (.cells (blkC Y).toArray 50)) := ((Below.refl _ _).alloc (Nat.le_refl _) _).alloc (by simp) _
      have HX : ((w2.alloc (.cells (blkC X).toArray 50)).alloc (.cells (blkC Y).toArray 50)).heap[w2.heap.size]? = some (.cells (blkC X).toArray 50 (0, 0)) := keepBlock ((Below.refl _ _).alloc (Nat.le_refl _) _) (heap_alloc_new w2 _)
      have HY : ((w2.alloc (.cells (blkC X).toArray 50)).alloc (.cells (blkC Y).toArray 50)).heap[w2.heap.size + 1]? = some (.cells (blkC Y).toArray 50 (0, 0)) := by
        have := heap_alloc_new (w2.alloc (.cells (blkC X).toArray 50)) (.cells (blkC Y).toArray 50)
        rwa [World.size_alloc] at this
      have HB := keepBlock B2 H2.out
      obtain ⟨w8, hw8⟩ : ∃ w8, w8 = (w2.alloc (.cells (blkC X).toArray 50)).alloc (.cells (blkC Y).toArray 50) := ⟨_, rfl⟩
      rw [← hw8] at B2 HX HY HB ⊢
      have W8 := W2.trans (B2.mono W2.size)
      have L8 := Box.mk (h.out.below W8)
      have X8 := Box.mk (X0.out.below B2)
      have Y8 := Box.mk (Y0.out.below B2)
      have hall : ∀ w', SinceP w8 w' → rowOf w' W.heap.size 0 66 = some (blkC v) ∧ rowOf w' w2.heap.size 0 66 = some (blkC X) ∧ rowOf w' (w2.heap.size + 1) 0 66 = some (blkC Y) ∧ W.heap.size < w'.heap.size ∧ w2.heap.size < w'.heap.size ∧ w2.heap.size + 1 < w'.heap.size := fun w' hw => by
        obtain ⟨c1, c2, _⟩ := blk_all (keepBlock hw.out HB)
        obtain ⟨c3, c4, _⟩ := blk_all (keepBlock hw.out HX)
        obtain ⟨c5, c6, _⟩ := blk_all (keepBlock hw.out HY)
        exact ⟨c2, c4, c6, c1, c3, c5⟩
      replace hw8 := Box.mk hw8
      replace W8 := Box.mk W8
      replace HB := Box.mk HB
      replace HX := Box.mk HX
      replace HY := Box.mk HY
      replace B2 := Box.mk B2
      have hlv := Box.mk (show (notesL d.txs).length ≤ 100000 by { have h1 := notesL_le d.txs hk.out.2; have h2 := hk.out.1; omega })
      have hlx := Box.mk (show ([] : List Key).length + (notesL (d.txs.take i)).length ≤ 2000000 by { have h1 := notesL_le (d.txs.take i) okx.out.2; have h2 : (d.txs.take i).length ≤ 40 := okx.out.1; rw [List.length_nil]; omega })
      have hly := Box.mk (show ([] ++ notesL (d.txs.take i)).length + (notesL (d.txs.drop i)).length ≤ 2000000 by { have h1 := notesL_le (d.txs.take i) okx.out.2; have h2 : (d.txs.take i).length ≤ 40 := okx.out.1; have h3 := notesL_le (d.txs.drop i) oky.out.2; have h4 : (d.txs.drop i).length ≤ 40 := oky.out.1; rw [List.nil_append]; omega })
      clear k5 R2 s2
      refine hreg_begin (S := SinceP w8) (by kernel_rfl) (SinceP.refl _).drew (fun hHeld => ?_)
      simp only [List.length_cons, List.length_nil, Nat.zero_add, Nat.reduceAdd, Array.replicate]
      refine hreg_take (i := 1) rfl (by kernel_rfl) (by kernel_rfl) (by kernel_rfl) hreg_panic (by rfl) hHeld ?_
      apply Exists.intro
      refine ⟨fun w' hw' => ?_, ?_⟩
      · have hf := hall w' hw'
        go_simp
        try go_bits
        exact yieldsV_mk rfl
      simp only [Act.put, List.setIfInBounds_toArray, List.set_cons_zero, List.set_cons_succ]
      refine hreg_take (i := 4) rfl (by kernel_rfl) (by kernel_rfl) (by kernel_rfl) hreg_panic (by rfl) hHeld ?_
      apply Exists.intro
      refine ⟨fun w' hw' => ?_, ?_⟩
      · have hf := hall w' hw'
        go_simp
        try go_bits
        exact yieldsV_mk rfl
      simp only [Act.put, List.setIfInBounds_toArray, List.set_cons_zero, List.set_cons_succ]
      refine wpAnyH_ready (rs := [0, 2]) (by kernel_rfl) (by simp) ?_
      refine hreg_event (o := _) rfl (by rfl) (fun K hK => ?_) ?_
      · go_simp
        first
          | (obtain ⟨wa, hwa⟩ : ∃ wn, wn = (w8.alloc (.cells #[] 38)).drew := ⟨_, rfl⟩; have hO : KOwn wa w8.heap.size (.slice (some ⟨w8.heap.size, 0, none⟩) 0 0) [] := by { rw [hwa]; exact Own.empty keyC 32 38 w8 w8.heap.size w8.heap.size rfl (Nat.le_refl _) }; have hb : Below w8.heap.size w8 wa := by { rw [hwa]; exact ((Below.refl _ _).alloc (Nat.le_refl _) _).drew }; rw [← hwa]; clear hwa)
          | skip
        refine hK.out _ _ ?_ (fun hHeld' => ?_)
        · first
            | exact ⟨hb⟩
            | exact hHeld.next hb
            | exact hHeld
            | exact hHeld.alloc _
            | exact hHeld.setCell (by simp <;> omega) _
            | exact (hHeld.alloc _).alloc _
        replace hHeld := hHeld'
        clear hHeld' hK K
        simp only [Act.put, List.setIfInBounds_toArray, List.set_cons_zero, List.set_cons_succ]
        refine wpAnyH_ready (rs := [2]) (by kernel_rfl) (by simp) ?_
        refine hreg_event (o := _) rfl (by rfl) (fun K hK => ?_) ?_
        · go_simp
          first
            | (go_at_call 29; refine (notes_any X _ _ _ (X8.out.below hHeld.out) okx.out).mono ?_; rintro e wn ⟨⟨na, nn, nc, rfl, hN⟩, hb⟩; replace hO := hO.below hb)
            | skip
          refine hK.out _ _ ?_ (fun hHeld' => ?_)
          · first
              | exact hHeld.next hb
              | exact hHeld
              | exact hHeld.alloc _
              | exact hHeld.setCell (by simp <;> omega) _
              | exact (hHeld.alloc _).alloc _
          replace hHeld := hHeld'
          clear hHeld' hK K
          simp only [Act.put, List.setIfInBounds_toArray, List.set_cons_zero, List.set_cons_succ]
          refine wpAnyH_ready (rs := [3]) (by kernel_rfl) (by simp) ?_
          refine hreg_event (o := _) rfl (by rfl) (fun K hK => ?_) ?_
          · go_simp
            first
              | (obtain ⟨u1, n1, c1, wp, hap, hO1, hb1, _, hn1⟩ := app_kk (ty := 39) hO hHeld.out.size na nn nc _ hN hlx.out; rw [hap]; replace hn1 := Box.mk hn1)
              | skip
            refine hK.out _ _ ?_ (fun hHeld' => ?_)
            · first
                | exact ⟨hHeld.out.trans hb1⟩
                | exact hHeld.next hb
                | exact hHeld
                | exact hHeld.alloc _
                | exact hHeld.setCell (by simp <;> omega) _
                | exact (hHeld.alloc _).alloc _
            replace hHeld := hHeld'
            clear hHeld' hK K
            simp only [Act.put, List.setIfInBounds_toArray, List.set_cons_zero, List.set_cons_succ]
            refine wpAnyH_ready (rs := [5]) (by kernel_rfl) (by simp) ?_
            refine hreg_event (o := _) rfl (by rfl) (fun K hK => ?_) ?_
            · go_simp
              first
                | (go_at_call 29; refine (notes_any Y _ _ _ (Y8.out.below hHeld.out) oky.out).mono ?_; rintro e wr ⟨⟨ma, mn, mc, rfl, hM⟩, hb⟩; replace hO1 := hO1.below hb)
                | skip
              refine hK.out _ _ ?_ (fun hHeld' => ?_)
              · first
                  | exact hHeld.next hb
                  | exact hHeld
                  | exact hHeld.alloc _
                  | exact hHeld.setCell (by simp <;> omega) _
                  | exact (hHeld.alloc _).alloc _
              replace hHeld := hHeld'
              clear hHeld' hK K
              simp only [Act.put, List.setIfInBounds_toArray, List.set_cons_zero, List.set_cons_succ]
              refine wpAnyH_ready (rs := [6]) (by kernel_rfl) (by simp) ?_
              refine hreg_event (o := _) rfl (by rfl) (fun K hK => ?_) ?_
              · go_simp
                first
                  | (obtain ⟨u2, n2, c2, wq, hap2, hO2, hb2, _, hn2⟩ := app_kk (ty := 39) hO1 hHeld.out.size ma mn mc _ hM hly.out; rw [hap2]; replace hn2 := Box.mk hn2)
                  | skip
                refine hK.out _ _ ?_ (fun hHeld' => ?_)
                · first
                    | exact ⟨hHeld.out.trans hb2⟩
                    | exact hHeld.next hb
                    | exact hHeld
                    | exact hHeld.alloc _
                    | exact hHeld.setCell (by simp <;> omega) _
                    | exact (hHeld.alloc _).alloc _
                replace hHeld := hHeld'
                clear hHeld' hK K
                simp only [Act.put, List.setIfInBounds_toArray, List.set_cons_zero, List.set_cons_succ]
                refine hreg_take (i := 7) rfl (by kernel_rfl) (by kernel_rfl) (by kernel_rfl) hreg_panic (by rfl) hHeld ?_
                apply Exists.intro
                refine ⟨fun w' hw' => ?_, ?_⟩
                · have hf := hall w' hw'
                  go_simp
                  try go_bits
                  exact yieldsV_mk rfl
                simp only [Act.put, List.setIfInBounds_toArray, List.set_cons_zero, List.set_cons_succ]
                refine wpAnyH_done (by kernel_rfl) ?_ _
                refine NoPanic.normal ?_
                have hSq := hHeld.out
                have hall7 : ∀ w', SinceP wq w' → rowOf w' W.heap.size 0 66 = some (blkC v) ∧ rowOf w' w2.heap.size 0 66 = some (blkC X) ∧ rowOf w' (w2.heap.size + 1) 0 66 = some (blkC Y) ∧ W.heap.size < w'.heap.size ∧ w2.heap.size < w'.heap.size ∧ w2.heap.size + 1 < w'.heap.size := fun w' hw => hall w' ⟨hSq.trans (hw.out.mono hSq.size)⟩
                have Wq := W8.out.trans (hSq.mono W8.out.size)
                have Lq := Box.mk (L8.out.below hSq)
                have Xq := Box.mk (X8.out.below hSq)
                have Yq := Box.mk (Y8.out.below hSq)
                have hKq := Box.mk hO2.sl'.2
                have hnn : (notesL d.txs == [] ++ notesL (d.txs.take i) ++ notesL (d.txs.drop i)) = true := by rw [List.nil_append, ← notesL_append, List.take_append_drop]; exact beq_self_eq_true _
                have hss : sigsN d.txs = sigsN (d.txs.take i) + sigsN (d.txs.drop i) := by rw [← sigsN_append, List.take_append_drop]
                clear hall hHeld hO1 hO2
                clear hSq
                have hall := hall7
                clear hall7
                replace Wq := Box.mk Wq
                replace hnn := Box.mk hnn
                obtain ⟨A, hA⟩ : ∃ A, sigsN (d.txs.take i) = A := ⟨_, rfl⟩
                obtain ⟨C, hC⟩ : ∃ C, sigsN (d.txs.drop i) = C := ⟨_, rfl⟩
                have hA1 := sigsN_le _ okx.out.2
                have hC1 := sigsN_le _ oky.out.2
                have hA2 : (d.txs.take i).length ≤ 40 := okx.out.1
                have hC2 : (d.txs.drop i).length ≤ 40 := oky.out.1
                have hA3 : A ≤ 2400 := by rw [← hA]; exact Nat.le_trans hA1 (by show 60 * (d.txs.take i).length ≤ _; omega)
                have hC3 : C ≤ 2400 := by rw [← hC]; exact Nat.le_trans hC1 (by show 60 * (d.txs.drop i).length ≤ _; omega)
                have hAC : wrap64 ((A : Int) + (C : Int)) = (((A + C : Nat)) : Int) := by rw [IntWalk.wrap64_in _ ⟨by omega, by omega⟩]; omega
                rw [hA, hC] at hss
                have cV : ∀ w, SinceP wq w → Calls Try.prog 31 #[.agg (blkC v).toArray] w (Gives (.int .i64 ((A + C : Nat) : Int)) w) := fun w hw => by rw [← hss]; exact sigs_any v _ _ _ (Lq.out.below hw.out) hk.out
                have cX : ∀ w, SinceP wq w → Calls Try.prog 31 #[.agg (blkC X).toArray] w (Gives (.int .i64 (A : Int)) w) := fun w hw => by rw [← hA]; exact sigs_any X _ _ _ (Xq.out.below hw.out) okx.out
                have cY : ∀ w, SinceP wq w → Calls Try.prog 31 #[.agg (blkC Y).toArray] w (Gives (.int .i64 (C : Int)) w) := fun w hw => by rw [← hC]; exact sigs_any Y _ _ _ (Yq.out.below hw.out) oky.out
                replace cV := Box.mk cV
                replace cX := Box.mk cX
                replace cY := Box.mk cY
                replace hss := Box.mk hss
                replace hA := Box.mk hA
                replace hC := Box.mk hC
                clear hA1 hC1 hA2 hC2
                go_wp2_with fail
                refine hreg_begin (S := SinceP wq) (by kernel_rfl) (SinceP.refl _).drew (fun hHeld => ?_)
                simp only [List.length_cons, List.length_nil, Nat.zero_add, Nat.reduceAdd, Array.replicate]
                refine hreg_take (i := 0) rfl (by kernel_rfl) (by kernel_rfl) (by kernel_rfl) hreg_panic (by rfl) hHeld ?_
                apply Exists.intro
                refine ⟨fun w' hw' => ?_, ?_⟩
                · have hf := hall w' hw'
                  go_simp
                  try go_bits
                  exact yieldsV_mk rfl
                simp only [Act.put, List.setIfInBounds_toArray, List.set_cons_zero, List.set_cons_succ]
                refine hreg_take (i := 2) rfl (by kernel_rfl) (by kernel_rfl) (by kernel_rfl) hreg_panic (by rfl) hHeld ?_
                apply Exists.intro
                refine ⟨fun w' hw' => ?_, ?_⟩
                · have hf := hall w' hw'
                  go_simp
                  try go_bits
                  exact yieldsV_mk rfl
                simp only [Act.put, List.setIfInBounds_toArray, List.set_cons_zero, List.set_cons_succ]
                refine wpAnyH_ready (rs := [1]) (by kernel_rfl) (by simp) ?_
                refine hreg_event (o := _) rfl (by rfl) (fun K hK => ?_) ?_
                · go_simp
                  first
                    | (go_at_call 29; refine (notes_any v _ _ _ (Lq.out.below (Below.refl _ _).drew) hk.out).mono ?_; rintro e wa ⟨⟨ba, bn, bc, rfl, hP⟩, hb⟩)
                    | skip
                  refine hK.out _ _ ?_ (fun hHeld' => ?_)
                  · first
                      | exact hHeld.next hb
                      | exact hHeld
                      | exact hHeld.alloc _
                      | exact hHeld.setCell (by simp <;> omega) _
                      | exact (hHeld.alloc _).alloc _
                  replace hHeld := hHeld'
                  clear hHeld' hK K
                  simp only [Act.put, List.setIfInBounds_toArray, List.set_cons_zero, List.set_cons_succ]
                  refine wpAnyH_ready (rs := [3]) (by kernel_rfl) (by simp) ?_
                  refine hreg_event (o := _) rfl (by rfl) (fun K hK => ?_) ?_
                  · go_simp
                    first
                      | (go_at_call 30; refine (sameK_any ba u2 bn n2 bc c2 _ _ wa hP (hKq.out.below hHeld.out) (by rw [hP.1]; exact hlv.out)).mono ?_; rw [hnn.out]; rintro e wb ⟨rfl, hb⟩)
                      | skip
                    refine hK.out _ _ ?_ (fun hHeld' => ?_)
                    · first
                        | exact hHeld.next hb
                        | exact hHeld
                        | exact hHeld.alloc _
                        | exact hHeld.setCell (by simp <;> omega) _
                        | exact (hHeld.alloc _).alloc _
                    replace hHeld := hHeld'
                    clear hHeld' hK K
                    simp only [Act.put, List.setIfInBounds_toArray, List.set_cons_zero, List.set_cons_succ]
                    refine hreg_take (i := 4) rfl (by kernel_rfl) (by kernel_rfl) (by kernel_rfl) hreg_panic (by rfl) hHeld ?_
                    apply Exists.intro
                    refine ⟨fun w' hw' => ?_, ?_⟩
                    · have hf := hall w' hw'
                      go_simp
                      try go_bits
                      exact yieldsV_mk rfl
                    simp only [Act.put, List.setIfInBounds_toArray, List.set_cons_zero, List.set_cons_succ]
                    refine hreg_take (i := 5) rfl (by kernel_rfl) (by kernel_rfl) (by kernel_rfl) hreg_panic (by rfl) hHeld ?_
                    apply Exists.intro
                    refine ⟨fun w' hw' => ?_, ?_⟩
                    · have hf := hall w' hw'
                      go_simp
                      try go_bits
                      exact yieldsV_mk rfl
                    simp only [Act.put, List.setIfInBounds_toArray, List.set_cons_zero, List.set_cons_succ]
                    refine hreg_take (i := 7) rfl (by kernel_rfl) (by kernel_rfl) (by kernel_rfl) hreg_panic (by rfl) hHeld ?_
                    apply Exists.intro
                    refine ⟨fun w' hw' => ?_, ?_⟩
                    · have hf := hall w' hw'
                      go_simp
                      try go_bits
                      exact yieldsV_mk rfl
                    simp only [Act.put, List.setIfInBounds_toArray, List.set_cons_zero, List.set_cons_succ]
                    refine hreg_take (i := 9) rfl (by kernel_rfl) (by kernel_rfl) (by kernel_rfl) hreg_panic (by rfl) hHeld ?_
                    apply Exists.intro
                    refine ⟨fun w' hw' => ?_, ?_⟩
                    · have hf := hall w' hw'
                      go_simp
                      try go_bits
                      exact yieldsV_mk rfl
                    simp only [Act.put, List.setIfInBounds_toArray, List.set_cons_zero, List.set_cons_succ]
                    refine wpAnyH_ready (rs := [6]) (by kernel_rfl) (by simp) ?_
                    refine hreg_event (o := _) rfl (by rfl) (fun K hK => ?_) ?_
                    · go_simp
                      first
                        | (go_at_call 31; refine (cV.out _ hHeld).mono ?_; rintro e wc ⟨rfl, hb⟩)
                        | skip
                      refine hK.out _ _ ?_ (fun hHeld' => ?_)
                      · first
                          | exact hHeld.next hb
                          | exact hHeld
                          | exact hHeld.alloc _
                          | exact hHeld.setCell (by simp <;> omega) _
                          | exact (hHeld.alloc _).alloc _
                      replace hHeld := hHeld'
                      clear hHeld' hK K
                      simp only [Act.put, List.setIfInBounds_toArray, List.set_cons_zero, List.set_cons_succ]
                      refine wpAnyH_ready (rs := [8]) (by kernel_rfl) (by simp) ?_
                      refine hreg_event (o := _) rfl (by rfl) (fun K hK => ?_) ?_
                      · go_simp
                        first
                          | (go_at_call 31; refine (cX.out _ hHeld).mono ?_; rintro e wd ⟨rfl, hb⟩)
                          | skip
                        refine hK.out _ _ ?_ (fun hHeld' => ?_)
                        · first
                            | exact hHeld.next hb
                            | exact hHeld
                            | exact hHeld.alloc _
                            | exact hHeld.setCell (by simp <;> omega) _
                            | exact (hHeld.alloc _).alloc _
                        replace hHeld := hHeld'
                        clear hHeld' hK K
                        simp only [Act.put, List.setIfInBounds_toArray, List.set_cons_zero, List.set_cons_succ]
                        refine wpAnyH_ready (rs := [10]) (by kernel_rfl) (by simp) ?_
                        refine hreg_event (o := _) rfl (by rfl) (fun K hK => ?_) ?_
                        · go_simp
                          first
                            | (go_at_call 31; refine (cY.out _ hHeld).mono ?_; rintro e we ⟨rfl, hb⟩)
                            | skip
                          refine hK.out _ _ ?_ (fun hHeld' => ?_)
                          · first
                              | exact hHeld.next hb
                              | exact hHeld
                              | exact hHeld.alloc _
                              | exact hHeld.setCell (by simp <;> omega) _
                              | exact (hHeld.alloc _).alloc _
                          replace hHeld := hHeld'
                          clear hHeld' hK K
                          simp only [Act.put, List.setIfInBounds_toArray, List.set_cons_zero, List.set_cons_succ]
                          refine hreg_take (i := 11) rfl (by kernel_rfl) (by kernel_rfl) (by kernel_rfl) hreg_panic (by rfl) hHeld ?_
                          apply Exists.intro
                          refine ⟨fun w' hw' => ?_, ?_⟩
                          · have hf := hall w' hw'
                            go_simp
                            try go_bits
                            exact yieldsV_mk rfl
                          simp only [Act.put, List.setIfInBounds_toArray, List.set_cons_zero, List.set_cons_succ]
                          refine hreg_take (i := 12) rfl (by kernel_rfl) (by kernel_rfl) (by kernel_rfl) hreg_panic (by rfl) hHeld ?_
                          apply Exists.intro
                          refine ⟨fun w' hw' => ?_, ?_⟩
                          · have hf := hall w' hw'
                            go_simp
                            try go_bits
                            exact yieldsV_mk rfl
                          simp only [Act.put, List.setIfInBounds_toArray, List.set_cons_zero, List.set_cons_succ]
                          refine hreg_take (i := 13) rfl (by kernel_rfl) (by kernel_rfl) (by kernel_rfl) hreg_panic (by rfl) hHeld ?_
                          apply Exists.intro
                          refine ⟨fun w' hw' => ?_, ?_⟩
                          · have hf := hall w' hw'
                            go_simp
                            try go_bits
                            exact yieldsV_mk rfl
                          simp only [Act.put, List.setIfInBounds_toArray, List.set_cons_zero, List.set_cons_succ]
                          refine hreg_take (i := 14) rfl (by kernel_rfl) (by kernel_rfl) (by kernel_rfl) hreg_panic (by rfl) hHeld ?_
                          apply Exists.intro
                          refine ⟨fun w' hw' => ?_, ?_⟩
                          · have hf := hall w' hw'
                            go_simp
                            try go_bits
                            exact yieldsV_mk rfl
                          simp only [Act.put, List.setIfInBounds_toArray, List.set_cons_zero, List.set_cons_succ]
                          refine hreg_take (i := 15) rfl (by kernel_rfl) (by kernel_rfl) (by kernel_rfl) hreg_panic (by rfl) hHeld ?_
                          apply Exists.intro
                          refine ⟨fun w' hw' => ?_, ?_⟩
                          · have hf := hall w' hw'
                            go_simp
                            try go_bits
                            exact yieldsV_mk rfl
                          simp only [Act.put, List.setIfInBounds_toArray, List.set_cons_zero, List.set_cons_succ]
                          refine wpAnyH_ready (rs := [16]) (by kernel_rfl) (by simp) ?_
                          refine hreg_event (o := _) rfl (by rfl) (fun K hK => ?_) ?_
                          · go_simp
                            first
                              | skip
                            refine hK.out _ _ ?_ (fun hHeld' => ?_)
                            · first
                                | exact hHeld.next hb
                                | exact hHeld
                                | exact hHeld.alloc _
                                | exact hHeld.setCell (by simp <;> omega) _
                                | exact (hHeld.alloc _).alloc _
                            replace hHeld := hHeld'
                            clear hHeld' hK K
                            simp only [Act.put, List.setIfInBounds_toArray, List.set_cons_zero, List.set_cons_succ]
                            refine hreg_take (i := 17) rfl (by kernel_rfl) (by kernel_rfl) (by kernel_rfl) hreg_panic (by rfl) hHeld ?_
                            apply Exists.intro
                            refine ⟨fun w' hw' => ?_, ?_⟩
                            · have hf := hall w' hw'
                              go_simp
                              try go_bits
                              exact yieldsV_mk rfl
                            simp only [Act.put, List.setIfInBounds_toArray, List.set_cons_zero, List.set_cons_succ]
                            refine wpAnyH_ready (rs := [18]) (by kernel_rfl) (by simp) ?_
                            refine hreg_event (o := _) rfl (by rfl) (fun K hK => ?_) ?_
                            · go_simp
                              first
                                | skip
                              refine hK.out _ _ ?_ (fun hHeld' => ?_)
                              · first
                                  | exact hHeld.next hb
                                  | exact hHeld
                                  | exact hHeld.alloc _
                                  | exact hHeld.setCell (by simp <;> omega) _
                                  | exact (hHeld.alloc _).alloc _
                              replace hHeld := hHeld'
                              clear hHeld' hK K
                              simp only [Act.put, List.setIfInBounds_toArray, List.set_cons_zero, List.set_cons_succ]
                              refine hreg_take (i := 19) rfl (by kernel_rfl) (by kernel_rfl) (by kernel_rfl) hreg_panic (by rfl) hHeld ?_
                              apply Exists.intro
                              refine ⟨fun w' hw' => ?_, ?_⟩
                              · have hf := hall w' hw'
                                go_simp
                                try go_bits
                                exact yieldsV_mk rfl
                              simp only [Act.put, List.setIfInBounds_toArray, List.set_cons_zero, List.set_cons_succ]
                              refine wpAnyH_ready (rs := [20]) (by kernel_rfl) (by simp) ?_
                              refine hreg_event (o := _) rfl (by rfl) (fun K hK => ?_) ?_
                              · go_simp
                                first
                                  | (go_at_call 31; refine (sig0_any we).mono ?_; rintro e wf ⟨rfl, hb⟩)
                                  | skip
                                refine hK.out _ _ ?_ (fun hHeld' => ?_)
                                · first
                                    | exact hHeld.next hb
                                    | exact hHeld
                                    | exact hHeld.alloc _
                                    | exact hHeld.setCell (by simp <;> omega) _
                                    | exact (hHeld.alloc _).alloc _
                                replace hHeld := hHeld'
                                clear hHeld' hK K
                                simp only [Act.put, List.setIfInBounds_toArray, List.set_cons_zero, List.set_cons_succ]
                                refine hreg_take (i := 21) rfl (by kernel_rfl) (by kernel_rfl) (by kernel_rfl) hreg_panic (by rfl) hHeld ?_
                                apply Exists.intro
                                refine ⟨fun w' hw' => ?_, ?_⟩
                                · have hf := hall w' hw'
                                  go_simp
                                  try go_bits
                                  exact yieldsV_mk rfl
                                simp only [Act.put, List.setIfInBounds_toArray, List.set_cons_zero, List.set_cons_succ]
                                refine hreg_take (i := 22) rfl (by kernel_rfl) (by kernel_rfl) (by kernel_rfl) hreg_panic (by rfl) hHeld ?_
                                apply Exists.intro
                                refine ⟨fun w' hw' => ?_, ?_⟩
                                · have hf := hall w' hw'
                                  go_simp
                                  try go_bits
                                  exact yieldsV_mk rfl
                                simp only [Act.put, List.setIfInBounds_toArray, List.set_cons_zero, List.set_cons_succ]
                                refine hreg_take (i := 23) rfl (by kernel_rfl) (by kernel_rfl) (by kernel_rfl) hreg_panic (by rfl) hHeld ?_
                                apply Exists.intro
                                refine ⟨fun w' hw' => ?_, ?_⟩
                                · have hf := hall w' hw'
                                  go_simp
                                  try go_bits
                                  exact yieldsV_mk rfl
                                simp only [Act.put, List.setIfInBounds_toArray, List.set_cons_zero, List.set_cons_succ]
                                refine wpAnyH_done (by kernel_rfl) ?_ _
                                refine NoPanic.normal ?_
                                have Bf := Wq.out.trans (hHeld.out.mono Wq.out.size)
                                go_wp2
                                go_ret
                                exact gives_bool rfl Bf
                              exact AllReadyH.nil
                            exact AllReadyH.nil
                          exact AllReadyH.nil
                        exact AllReadyH.nil
                      exact AllReadyH.nil
                    exact AllReadyH.nil
                  exact AllReadyH.nil
                exact AllReadyH.nil
              exact AllReadyH.nil
            exact AllReadyH.nil
          exact AllReadyH.nil
        exact AllReadyH.nil
      refine hreg_event (o := _) rfl (by rfl) (fun K hK => ?_) ?_
      · go_simp
        first
          | (go_at_call 29; refine (notes_any X _ _ _ (X8.out.below (Below.refl _ _).drew) okx.out).mono ?_; rintro e wn ⟨⟨na, nn, nc, rfl, hN⟩, hb⟩)
          | skip
        refine hK.out _ _ ?_ (fun hHeld' => ?_)
        · first
            | exact hHeld.next hb
            | exact hHeld
            | exact hHeld.alloc _
            | exact hHeld.setCell (by simp <;> omega) _
            | exact (hHeld.alloc _).alloc _
        replace hHeld := hHeld'
        clear hHeld' hK K
        simp only [Act.put, List.setIfInBounds_toArray, List.set_cons_zero, List.set_cons_succ]
        refine wpAnyH_ready (rs := [0]) (by kernel_rfl) (by simp) ?_
        refine hreg_event (o := _) rfl (by rfl) (fun K hK => ?_) ?_
        · go_simp
          first
            | (obtain ⟨wm, hwm⟩ : ∃ wm, wm = wn.alloc (.cells #[] 38) := ⟨_, rfl⟩; have hO : KOwn wm w8.heap.size (.slice (some ⟨wn.heap.size, 0, none⟩) 0 0) [] := by { rw [hwm]; exact Own.empty keyC 32 38 wn w8.heap.size wn.heap.size rfl hHeld.out.size }; have hb : Below wn.heap.size wn wm := by { rw [hwm]; exact (Below.refl _ _).alloc (Nat.le_refl _) _ }; replace hN := hN.below hb; rw [← hwm]; clear hwm)
            | skip
          refine hK.out _ _ ?_ (fun hHeld' => ?_)
          · first
              | exact hHeld.next hb
              | exact hHeld
              | exact hHeld.alloc _
              | exact hHeld.setCell (by simp <;> omega) _
              | exact (hHeld.alloc _).alloc _
          replace hHeld := hHeld'
          clear hHeld' hK K
          simp only [Act.put, List.setIfInBounds_toArray, List.set_cons_zero, List.set_cons_succ]
          refine wpAnyH_ready (rs := [3]) (by kernel_rfl) (by simp) ?_
          refine hreg_event (o := _) rfl (by rfl) (fun K hK => ?_) ?_
          · go_simp
            first
              | (obtain ⟨u1, n1, c1, wp, hap, hO1, hb1, _, hn1⟩ := app_kk (ty := 39) hO hHeld.out.size na nn nc _ hN hlx.out; rw [hap]; replace hn1 := Box.mk hn1)
              | skip
            refine hK.out _ _ ?_ (fun hHeld' => ?_)
            · first
                | exact ⟨hHeld.out.trans hb1⟩
                | exact hHeld.next hb
                | exact hHeld
                | exact hHeld.alloc _
                | exact hHeld.setCell (by simp <;> omega) _
                | exact (hHeld.alloc _).alloc _
            replace hHeld := hHeld'
            clear hHeld' hK K
            simp only [Act.put, List.setIfInBounds_toArray, List.set_cons_zero, List.set_cons_succ]
            refine wpAnyH_ready (rs := [5]) (by kernel_rfl) (by simp) ?_
            refine hreg_event (o := _) rfl (by rfl) (fun K hK => ?_) ?_
            · go_simp
              first
                | (go_at_call 29; refine (notes_any Y _ _ _ (Y8.out.below hHeld.out) oky.out).mono ?_; rintro e wr ⟨⟨ma, mn, mc, rfl, hM⟩, hb⟩; replace hO1 := hO1.below hb)
                | skip
              refine hK.out _ _ ?_ (fun hHeld' => ?_)
              · first
                  | exact hHeld.next hb
                  | exact hHeld
                  | exact hHeld.alloc _
                  | exact hHeld.setCell (by simp <;> omega) _
                  | exact (hHeld.alloc _).alloc _
              replace hHeld := hHeld'
              clear hHeld' hK K
              simp only [Act.put, List.setIfInBounds_toArray, List.set_cons_zero, List.set_cons_succ]
              refine wpAnyH_ready (rs := [6]) (by kernel_rfl) (by simp) ?_
              refine hreg_event (o := _) rfl (by rfl) (fun K hK => ?_) ?_
              · go_simp
                first
                  | (obtain ⟨u2, n2, c2, wq, hap2, hO2, hb2, _, hn2⟩ := app_kk (ty := 39) hO1 hHeld.out.size ma mn mc _ hM hly.out; rw [hap2]; replace hn2 := Box.mk hn2)
                  | skip
                refine hK.out _ _ ?_ (fun hHeld' => ?_)
                · first
                    | exact ⟨hHeld.out.trans hb2⟩
                    | exact hHeld.next hb
                    | exact hHeld
                    | exact hHeld.alloc _
                    | exact hHeld.setCell (by simp <;> omega) _
                    | exact (hHeld.alloc _).alloc _
                replace hHeld := hHeld'
                clear hHeld' hK K
                simp only [Act.put, List.setIfInBounds_toArray, List.set_cons_zero, List.set_cons_succ]
                refine hreg_take (i := 7) rfl (by kernel_rfl) (by kernel_rfl) (by kernel_rfl) hreg_panic (by rfl) hHeld ?_
                apply Exists.intro
                refine ⟨fun w' hw' => ?_, ?_⟩
                · have hf := hall w' hw'
                  go_simp
                  try go_bits
                  exact yieldsV_mk rfl
                simp only [Act.put, List.setIfInBounds_toArray, List.set_cons_zero, List.set_cons_succ]
                refine wpAnyH_done (by kernel_rfl) ?_ _
                refine NoPanic.normal ?_
                have hSq := hHeld.out
                have hall7 : ∀ w', SinceP wq w' → rowOf w' W.heap.size 0 66 = some (blkC v) ∧ rowOf w' w2.heap.size 0 66 = some (blkC X) ∧ rowOf w' (w2.heap.size + 1) 0 66 = some (blkC Y) ∧ W.heap.size < w'.heap.size ∧ w2.heap.size < w'.heap.size ∧ w2.heap.size + 1 < w'.heap.size := fun w' hw => hall w' ⟨hSq.trans (hw.out.mono hSq.size)⟩
                have Wq := W8.out.trans (hSq.mono W8.out.size)
                have Lq := Box.mk (L8.out.below hSq)
                have Xq := Box.mk (X8.out.below hSq)
                have Yq := Box.mk (Y8.out.below hSq)
                have hKq := Box.mk hO2.sl'.2
                have hnn : (notesL d.txs == [] ++ notesL (d.txs.take i) ++ notesL (d.txs.drop i)) = true := by rw [List.nil_append, ← notesL_append, List.take_append_drop]; exact beq_self_eq_true _
                have hss : sigsN d.txs = sigsN (d.txs.take i) + sigsN (d.txs.drop i) := by rw [← sigsN_append, List.take_append_drop]
                clear hall hHeld hO1 hO2
                clear hSq
                have hall := hall7
                clear hall7
                replace Wq := Box.mk Wq
                replace hnn := Box.mk hnn
                obtain ⟨A, hA⟩ : ∃ A, sigsN (d.txs.take i) = A := ⟨_, rfl⟩
                obtain ⟨C, hC⟩ : ∃ C, sigsN (d.txs.drop i) = C := ⟨_, rfl⟩
                have hA1 := sigsN_le _ okx.out.2
                have hC1 := sigsN_le _ oky.out.2
                have hA2 : (d.txs.take i).length ≤ 40 := okx.out.1
                have hC2 : (d.txs.drop i).length ≤ 40 := oky.out.1
                have hA3 : A ≤ 2400 := by rw [← hA]; exact Nat.le_trans hA1 (by show 60 * (d.txs.take i).length ≤ _; omega)
                have hC3 : C ≤ 2400 := by rw [← hC]; exact Nat.le_trans hC1 (by show 60 * (d.txs.drop i).length ≤ _; omega)
                have hAC : wrap64 ((A : Int) + (C : Int)) = (((A + C : Nat)) : Int) := by rw [IntWalk.wrap64_in _ ⟨by omega, by omega⟩]; omega
                rw [hA, hC] at hss
                have cV : ∀ w, SinceP wq w → Calls Try.prog 31 #[.agg (blkC v).toArray] w (Gives (.int .i64 ((A + C : Nat) : Int)) w) := fun w hw => by rw [← hss]; exact sigs_any v _ _ _ (Lq.out.below hw.out) hk.out
                have cX : ∀ w, SinceP wq w → Calls Try.prog 31 #[.agg (blkC X).toArray] w (Gives (.int .i64 (A : Int)) w) := fun w hw => by rw [← hA]; exact sigs_any X _ _ _ (Xq.out.below hw.out) okx.out
                have cY : ∀ w, SinceP wq w → Calls Try.prog 31 #[.agg (blkC Y).toArray] w (Gives (.int .i64 (C : Int)) w) := fun w hw => by rw [← hC]; exact sigs_any Y _ _ _ (Yq.out.below hw.out) oky.out
                replace cV := Box.mk cV
                replace cX := Box.mk cX
                replace cY := Box.mk cY
                replace hss := Box.mk hss
                replace hA := Box.mk hA
                replace hC := Box.mk hC
                clear hA1 hC1 hA2 hC2
                go_wp2_with fail
                refine hreg_begin (S := SinceP wq) (by kernel_rfl) (SinceP.refl _).drew (fun hHeld => ?_)
                simp only [List.length_cons, List.length_nil, Nat.zero_add, Nat.reduceAdd, Array.replicate]
                refine hreg_take (i := 0) rfl (by kernel_rfl) (by kernel_rfl) (by kernel_rfl) hreg_panic (by rfl) hHeld ?_
                apply Exists.intro
                refine ⟨fun w' hw' => ?_, ?_⟩
                · have hf := hall w' hw'
                  go_simp
                  try go_bits
                  exact yieldsV_mk rfl
                simp only [Act.put, List.setIfInBounds_toArray, List.set_cons_zero, List.set_cons_succ]
                refine hreg_take (i := 2) rfl (by kernel_rfl) (by kernel_rfl) (by kernel_rfl) hreg_panic (by rfl) hHeld ?_
                apply Exists.intro
                refine ⟨fun w' hw' => ?_, ?_⟩
                · have hf := hall w' hw'
                  go_simp
                  try go_bits
                  exact yieldsV_mk rfl
                simp only [Act.put, List.setIfInBounds_toArray, List.set_cons_zero, List.set_cons_succ]
                refine wpAnyH_ready (rs := [1]) (by kernel_rfl) (by simp) ?_
                refine hreg_event (o := _) rfl (by rfl) (fun K hK => ?_) ?_
                · go_simp
                  first
                    | (go_at_call 29; refine (notes_any v _ _ _ (Lq.out.below (Below.refl _ _).drew) hk.out).mono ?_; rintro e wa ⟨⟨ba, bn, bc, rfl, hP⟩, hb⟩)
                    | skip
                  refine hK.out _ _ ?_ (fun hHeld' => ?_)
                  · first
                      | exact hHeld.next hb
                      | exact hHeld
                      | exact hHeld.alloc _
                      | exact hHeld.setCell (by simp <;> omega) _
                      | exact (hHeld.alloc _).alloc _
                  replace hHeld := hHeld'
                  clear hHeld' hK K
                  simp only [Act.put, List.setIfInBounds_toArray, List.set_cons_zero, List.set_cons_succ]
                  refine wpAnyH_ready (rs := [3]) (by kernel_rfl) (by simp) ?_
                  refine hreg_event (o := _) rfl (by rfl) (fun K hK => ?_) ?_
                  · go_simp
                    first
                      | (go_at_call 30; refine (sameK_any ba u2 bn n2 bc c2 _ _ wa hP (hKq.out.below hHeld.out) (by rw [hP.1]; exact hlv.out)).mono ?_; rw [hnn.out]; rintro e wb ⟨rfl, hb⟩)
                      | skip
                    refine hK.out _ _ ?_ (fun hHeld' => ?_)
                    · first
                        | exact hHeld.next hb
                        | exact hHeld
                        | exact hHeld.alloc _
                        | exact hHeld.setCell (by simp <;> omega) _
                        | exact (hHeld.alloc _).alloc _
                    replace hHeld := hHeld'
                    clear hHeld' hK K
                    simp only [Act.put, List.setIfInBounds_toArray, List.set_cons_zero, List.set_cons_succ]
                    refine hreg_take (i := 4) rfl (by kernel_rfl) (by kernel_rfl) (by kernel_rfl) hreg_panic (by rfl) hHeld ?_
                    apply Exists.intro
                    refine ⟨fun w' hw' => ?_, ?_⟩
                    · have hf := hall w' hw'
                      go_simp
                      try go_bits
                      exact yieldsV_mk rfl
                    simp only [Act.put, List.setIfInBounds_toArray, List.set_cons_zero, List.set_cons_succ]
                    refine hreg_take (i := 5) rfl (by kernel_rfl) (by kernel_rfl) (by kernel_rfl) hreg_panic (by rfl) hHeld ?_
                    apply Exists.intro
                    refine ⟨fun w' hw' => ?_, ?_⟩
                    · have hf := hall w' hw'
                      go_simp
                      try go_bits
                      exact yieldsV_mk rfl
                    simp only [Act.put, List.setIfInBounds_toArray, List.set_cons_zero, List.set_cons_succ]
                    refine hreg_take (i := 7) rfl (by kernel_rfl) (by kernel_rfl) (by kernel_rfl) hreg_panic (by rfl) hHeld ?_
                    apply Exists.intro
                    refine ⟨fun w' hw' => ?_, ?_⟩
                    · have hf := hall w' hw'
                      go_simp
                      try go_bits
                      exact yieldsV_mk rfl
                    simp only [Act.put, List.setIfInBounds_toArray, List.set_cons_zero, List.set_cons_succ]
                    refine hreg_take (i := 9) rfl (by kernel_rfl) (by kernel_rfl) (by kernel_rfl) hreg_panic (by rfl) hHeld ?_
                    apply Exists.intro
                    refine ⟨fun w' hw' => ?_, ?_⟩
                    · have hf := hall w' hw'
                      go_simp
                      try go_bits
                      exact yieldsV_mk rfl
                    simp only [Act.put, List.setIfInBounds_toArray, List.set_cons_zero, List.set_cons_succ]
                    refine wpAnyH_ready (rs := [6]) (by kernel_rfl) (by simp) ?_
                    refine hreg_event (o := _) rfl (by rfl) (fun K hK => ?_) ?_
                    · go_simp
                      first
                        | (go_at_call 31; refine (cV.out _ hHeld).mono ?_; rintro e wc ⟨rfl, hb⟩)
                        | skip
                      refine hK.out _ _ ?_ (fun hHeld' => ?_)
                      · first
                          | exact hHeld.next hb
                          | exact hHeld
                          | exact hHeld.alloc _
                          | exact hHeld.setCell (by simp <;> omega) _
                          | exact (hHeld.alloc _).alloc _
                      replace hHeld := hHeld'
                      clear hHeld' hK K
                      simp only [Act.put, List.setIfInBounds_toArray, List.set_cons_zero, List.set_cons_succ]
                      refine wpAnyH_ready (rs := [8]) (by kernel_rfl) (by simp) ?_
                      refine hreg_event (o := _) rfl (by rfl) (fun K hK => ?_) ?_
                      · go_simp
                        first
                          | (go_at_call 31; refine (cX.out _ hHeld).mono ?_; rintro e wd ⟨rfl, hb⟩)
                          | skip
                        refine hK.out _ _ ?_ (fun hHeld' => ?_)
                        · first
                            | exact hHeld.next hb
                            | exact hHeld
                            | exact hHeld.alloc _
                            | exact hHeld.setCell (by simp <;> omega) _
                            | exact (hHeld.alloc _).alloc _
                        replace hHeld := hHeld'
                        clear hHeld' hK K
                        simp only [Act.put, List.setIfInBounds_toArray, List.set_cons_zero, List.set_cons_succ]
                        refine wpAnyH_ready (rs := [10]) (by kernel_rfl) (by simp) ?_
                        refine hreg_event (o := _) rfl (by rfl) (fun K hK => ?_) ?_
                        · go_simp
                          first
                            | (go_at_call 31; refine (cY.out _ hHeld).mono ?_; rintro e we ⟨rfl, hb⟩)
                            | skip
                          refine hK.out _ _ ?_ (fun hHeld' => ?_)
                          · first
                              | exact hHeld.next hb
                              | exact hHeld
                              | exact hHeld.alloc _
                              | exact hHeld.setCell (by simp <;> omega) _
                              | exact (hHeld.alloc _).alloc _
                          replace hHeld := hHeld'
                          clear hHeld' hK K
                          simp only [Act.put, List.setIfInBounds_toArray, List.set_cons_zero, List.set_cons_succ]
                          refine hreg_take (i := 11) rfl (by kernel_rfl) (by kernel_rfl) (by kernel_rfl) hreg_panic (by rfl) hHeld ?_
                          apply Exists.intro
                          refine ⟨fun w' hw' => ?_, ?_⟩
                          · have hf := hall w' hw'
                            go_simp
                            try go_bits
                            exact yieldsV_mk rfl
                          simp only [Act.put, List.setIfInBounds_toArray, List.set_cons_zero, List.set_cons_succ]
                          refine hreg_take (i := 12) rfl (by kernel_rfl) (by kernel_rfl) (by kernel_rfl) hreg_panic (by rfl) hHeld ?_
                          apply Exists.intro
                          refine ⟨fun w' hw' => ?_, ?_⟩
                          · have hf := hall w' hw'
                            go_simp
                            try go_bits
                            exact yieldsV_mk rfl
                          simp only [Act.put, List.setIfInBounds_toArray, List.set_cons_zero, List.set_cons_succ]
                          refine hreg_take (i := 13) rfl (by kernel_rfl) (by kernel_rfl) (by kernel_rfl) hreg_panic (by rfl) hHeld ?_
                          apply Exists.intro
                          refine ⟨fun w' hw' => ?_, ?_⟩
                          · have hf := hall w' hw'
                            go_simp
                            try go_bits
                            exact yieldsV_mk rfl
                          simp only [Act.put, List.setIfInBounds_toArray, List.set_cons_zero, List.set_cons_succ]
                          refine hreg_take (i := 14) rfl (by kernel_rfl) (by kernel_rfl) (by kernel_rfl) hreg_panic (by rfl) hHeld ?_
                          apply Exists.intro
                          refine ⟨fun w' hw' => ?_, ?_⟩
                          · have hf := hall w' hw'
                            go_simp
                            try go_bits
                            exact yieldsV_mk rfl
                          simp only [Act.put, List.setIfInBounds_toArray, List.set_cons_zero, List.set_cons_succ]
                          refine hreg_take (i := 15) rfl (by kernel_rfl) (by kernel_rfl) (by kernel_rfl) hreg_panic (by rfl) hHeld ?_
                          apply Exists.intro
                          refine ⟨fun w' hw' => ?_, ?_⟩
                          · have hf := hall w' hw'
                            go_simp
                            try go_bits
                            exact yieldsV_mk rfl
                          simp only [Act.put, List.setIfInBounds_toArray, List.set_cons_zero, List.set_cons_succ]
                          refine wpAnyH_ready (rs := [16]) (by kernel_rfl) (by simp) ?_
                          refine hreg_event (o := _) rfl (by rfl) (fun K hK => ?_) ?_
                          · go_simp
                            first
                              | skip
                            refine hK.out _ _ ?_ (fun hHeld' => ?_)
                            · first
                                | exact hHeld.next hb
                                | exact hHeld
                                | exact hHeld.alloc _
                                | exact hHeld.setCell (by simp <;> omega) _
                                | exact (hHeld.alloc _).alloc _
                            replace hHeld := hHeld'
                            clear hHeld' hK K
                            simp only [Act.put, List.setIfInBounds_toArray, List.set_cons_zero, List.set_cons_succ]
                            refine hreg_take (i := 17) rfl (by kernel_rfl) (by kernel_rfl) (by kernel_rfl) hreg_panic (by rfl) hHeld ?_
                            apply Exists.intro
                            refine ⟨fun w' hw' => ?_, ?_⟩
                            · have hf := hall w' hw'
                              go_simp
                              try go_bits
                              exact yieldsV_mk rfl
                            simp only [Act.put, List.setIfInBounds_toArray, List.set_cons_zero, List.set_cons_succ]
                            refine wpAnyH_ready (rs := [18]) (by kernel_rfl) (by simp) ?_
                            refine hreg_event (o := _) rfl (by rfl) (fun K hK => ?_) ?_
                            · go_simp
                              first
                                | skip
                              refine hK.out _ _ ?_ (fun hHeld' => ?_)
                              · first
                                  | exact hHeld.next hb
                                  | exact hHeld
                                  | exact hHeld.alloc _
                                  | exact hHeld.setCell (by simp <;> omega) _
                                  | exact (hHeld.alloc _).alloc _
                              replace hHeld := hHeld'
                              clear hHeld' hK K
                              simp only [Act.put, List.setIfInBounds_toArray, List.set_cons_zero, List.set_cons_succ]
                              refine hreg_take (i := 19) rfl (by kernel_rfl) (by kernel_rfl) (by kernel_rfl) hreg_panic (by rfl) hHeld ?_
                              apply Exists.intro
                              refine ⟨fun w' hw' => ?_, ?_⟩
                              · have hf := hall w' hw'
                                go_simp
                                try go_bits
                                exact yieldsV_mk rfl
                              simp only [Act.put, List.setIfInBounds_toArray, List.set_cons_zero, List.set_cons_succ]
                              refine wpAnyH_ready (rs := [20]) (by kernel_rfl) (by simp) ?_
                              refine hreg_event (o := _) rfl (by rfl) (fun K hK => ?_) ?_
                              · go_simp
                                first
                                  | (go_at_call 31; refine (sig0_any we).mono ?_; rintro e wf ⟨rfl, hb⟩)
                                  | skip
                                refine hK.out _ _ ?_ (fun hHeld' => ?_)
                                · first
                                    | exact hHeld.next hb
                                    | exact hHeld
                                    | exact hHeld.alloc _
                                    | exact hHeld.setCell (by simp <;> omega) _
                                    | exact (hHeld.alloc _).alloc _
                                replace hHeld := hHeld'
                                clear hHeld' hK K
                                simp only [Act.put, List.setIfInBounds_toArray, List.set_cons_zero, List.set_cons_succ]
                                refine hreg_take (i := 21) rfl (by kernel_rfl) (by kernel_rfl) (by kernel_rfl) hreg_panic (by rfl) hHeld ?_
                                apply Exists.intro
                                refine ⟨fun w' hw' => ?_, ?_⟩
                                · have hf := hall w' hw'
                                  go_simp
                                  try go_bits
                                  exact yieldsV_mk rfl
                                simp only [Act.put, List.setIfInBounds_toArray, List.set_cons_zero, List.set_cons_succ]
                                refine hreg_take (i := 22) rfl (by kernel_rfl) (by kernel_rfl) (by kernel_rfl) hreg_panic (by rfl) hHeld ?_
                                apply Exists.intro
                                refine ⟨fun w' hw' => ?_, ?_⟩
                                · have hf := hall w' hw'
                                  go_simp
                                  try go_bits
                                  exact yieldsV_mk rfl
                                simp only [Act.put, List.setIfInBounds_toArray, List.set_cons_zero, List.set_cons_succ]
                                refine hreg_take (i := 23) rfl (by kernel_rfl) (by kernel_rfl) (by kernel_rfl) hreg_panic (by rfl) hHeld ?_
                                apply Exists.intro
                                refine ⟨fun w' hw' => ?_, ?_⟩
                                · have hf := hall w' hw'
                                  go_simp
                                  try go_bits
                                  exact yieldsV_mk rfl
                                simp only [Act.put, List.setIfInBounds_toArray, List.set_cons_zero, List.set_cons_succ]
                                refine wpAnyH_done (by kernel_rfl) ?_ _
                                refine NoPanic.normal ?_
                                have Bf := Wq.out.trans (hHeld.out.mono Wq.out.size)
                                go_wp2
                                go_ret
                                exact gives_bool rfl Bf
                              exact AllReadyH.nil
                            exact AllReadyH.nil
                          exact AllReadyH.nil
                        exact AllReadyH.nil
                      exact AllReadyH.nil
                    exact AllReadyH.nil
                  exact AllReadyH.nil
                exact AllReadyH.nil
              exact AllReadyH.nil
            exact AllReadyH.nil
          exact AllReadyH.nil
        exact AllReadyH.nil
      exact AllReadyH.nil
      done
  · go_enter Try.func9, Try.ntmps9
    go_wp2_with fail
    refine (heavy06_any v qs d _ (h.out.below hB0)).mono ?_
    rintro e w1 ⟨rfl, hb1⟩
    rw [hh]
    replace hh := Box.mk hh
    have W1 := hB0.trans (hb1.mono hB0.size)
    clear hb1 hs0
    go_wp2_with fail
    refine (shown06_any w1).mono ?_
    rintro e w2 ⟨rfl, hb2⟩
    go_wp2
    go_ret
    exact gives_bool rfl (W1.trans (hb2.mono W1.size))
end Go.Proofs.Ytahkiabpjfcfdaa
