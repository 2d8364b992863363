/- Layer 1: the document's constants and block. -/
import Derived.Test.YtabikhmaiennpaaShaRef3
namespace Go.Proofs.Ytabikhmaiennpaa
open Go.RowKit
set_option linter.unusedVariables false
set_option linter.unusedSimpArgs false
set_option maxRecDepth 100000

theorem ch_eq (e f g : UInt32) : (e &&& f) ^^^ (~~~e &&& g) = chW e f g := by
  unfold chW
  apply UInt32.toBitVec_inj.1
  simp only [UInt32.toBitVec_xor, UInt32.toBitVec_and, UInt32.toBitVec_not]
  refine BitVec.eq_of_getLsbD_eq fun i hi => ?_
  simp only [BitVec.getLsbD_xor, BitVec.getLsbD_and, BitVec.getLsbD_not, hi, decide_true, Bool.true_and]
  cases e.toBitVec.getLsbD i <;> cases f.toBitVec.getLsbD i <;> cases g.toBitVec.getLsbD i <;> rfl
theorem maj_eq (a b c : UInt32) : (a &&& b) ^^^ (a &&& c) ^^^ (b &&& c) = majW a b c := by
  unfold majW
  apply UInt32.toBitVec_inj.1
  simp only [UInt32.toBitVec_xor, UInt32.toBitVec_and, UInt32.toBitVec_or]
  refine BitVec.eq_of_getLsbD_eq fun i hi => ?_
  simp only [BitVec.getLsbD_xor, BitVec.getLsbD_and, BitVec.getLsbD_or]
  cases a.toBitVec.getLsbD i <;> cases b.toBitVec.getLsbD i <;> cases c.toBitVec.getLsbD i <;> rfl
theorem next_eq {ws : List UInt32} {j i15 i2 i16 i7 : Nat} (hl : ws.length = j) (h15 : j - 15 = i15) (h2 : j - 2 = i2) (h16 : j - 16 = i16) (h7 : j - 7 = i7) {a b x y : UInt32}
    (ha : ws[i16]? = some a) (hb : ws[i7]? = some b) (hx : ws[i15]? = some x) (hy : ws[i2]? = some y) : ((a + (rotr x 7 ^^^ rotr x 18 ^^^ x >>> 3)) + b) + (rotr y 17 ^^^ rotr y 19 ^^^ y >>> 10) = nextW ws := by
  unfold nextW
  rw [hl, h15, h2, h16, h7, List.getD_eq_getElem?_getD, List.getD_eq_getElem?_getD, List.getD_eq_getElem?_getD, List.getD_eq_getElem?_getD, ha, hb, hx, hy]
  show a + sig0 x + b + sig1 y = a + (sig0 x + b + sig1 y)
  rw [UInt32.add_assoc, UInt32.add_assoc, UInt32.add_assoc]
theorem u_not' (x : UInt32) : bits .xor .u32 (if IntKind.u32.signed = true then -1 else IntKind.u32.max) (iw x) = iw (~~~x) := u_not x
theorem heap_setCells_whole {w : World} {b : Nat} {old cs : List Value} {t : TypeId} {fr : Nat × Nat} (hb : w.heap[b]? = some (.cells old.toArray t fr)) (hl : old.length = cs.length) : (w.setCells b 0 cs).heap[b]? = some (.cells cs.toArray t fr) := by
  have h := setCells_append b cs w [] old [] t fr hl (by simpa using hb)
  have hlt := (Array.getElem?_eq_some_iff.1 hb).1
  simp only [List.length_nil, List.nil_append, List.append_nil] at h
  rw [h]
  simp [hlt]
theorem St.row8 (s : St) : isRow 8 (uC s.toL) = true := uC_row s.toL

attribute [local irreducible] kL h0L
attribute [local go_sem] kL_length h0L_length kL_row h0L_row St.row8
attribute [local irreducible] Int.lt Int.le
attribute [local go_sem] rowOf_drew rowOf_alloc_old rowOf_alloc_new canPut_drew canPut_alloc_old canPut_alloc_new setCells_alloc_new
attribute [local go_sem] u_xor u_and u_or u_add u_add' u_shr3 u_shr10 u_not u_not'
attribute [local go_sem ↓] load_u64w store_u64w alloc_u64w load_u8w store_u8w alloc_u8w append_u32 ix_u8w

set_option maxHeartbeats 2000000 in
theorem refK_any (W : World) : Calls Try.prog 26 #[] W (Gives (.agg (uC kL).toArray) W) := by
  go_enter Try.func26, Try.ntmps26
  have hlen := kL_length
  go_wp2_with fail
  rw [kL_cells]
  simp only [kL_row]
  go_simp
  go_wp2
  refine bodyPost_ret (v := .agg (uC kL).toArray) (res1 Try.results26 (res_u64w (b := W.heap.size) (o := 0) (by simp [go_sem]) (by simp [go_sem]))) rfl ?_
  exact gives rfl ((Below.refl _ _).alloc (Nat.le_refl _) _)

theorem res_u8w {tmps : Array Value} {a : Nat} {w : World} {b o : Nat} {cs : List Value} (ht : tmps.getD a undef = .pointer (some ⟨b, o, none⟩)) (h : rowOf w b o 8 = some cs) :
    (oneRes tmps (.cell a 52)).run Try.prog w = .ok (.agg cs.toArray) w := res_cell Try.underlying52 rfl (by kernel_rfl) ht h
theorem uC_row8 {w : World} {b : Nat} {s : St} {t : TypeId} {fr : Nat × Nat} (hb : w.heap[b]? = some (.cells (uC s.toL).toArray t fr)) : rowOf w b 0 8 = some (uC s.toL) := uC_rowOf hb

set_option maxHeartbeats 4000000 in
theorem refBlock_any (s : St) (p : List UInt8) (W : World) (hp : p.length = 64) : Calls Try.prog 24 #[.agg (uC s.toL).toArray, .string (sB p)] W (Gives (.agg (uC (comp s.toL (wordsL p))).toArray) W) := by
  obtain ⟨m, hmm⟩ : ∃ m, wordsL p = m := ⟨_, rfl⟩
  have hm : m.length = 16 := by rw [← hmm, wordsL_length, hp]
  have hst : stOf s.toL = s := rfl
  obtain ⟨r64, hr64⟩ : ∃ r, runW m s 64 = r := ⟨_, rfl⟩
  have hcomp : comp s.toL m = mixL s r64 8 := by rw [mixL_all, ← hr64]; unfold comp; rw [hst]
  rw [hmm, hcomp]
  replace hcomp := Box.mk hcomp
  replace hst := Box.mk hst
  have h8 : (uC s.toL).length = 8 := by rw [uC_length]; rfl
  go_enter Try.func24, Try.ntmps24
  go_wp2_with fail
  have hH1 : ((W.alloc (.cells (uC s.toL).toArray 52)).alloc (.cells (uC [0, 0, 0, 0, 0, 0, 0, 0]).toArray 52)).heap[W.heap.size]? = _ := (Below.heap_alloc _ _ _ (by simp)).trans (heap_alloc_new W _)
  have hR1 : ((W.alloc (.cells (uC s.toL).toArray 52)).alloc (.cells (uC [0, 0, 0, 0, 0, 0, 0, 0]).toArray 52)).heap[W.heap.size + 1]? = _ := heap_alloc_new' _ _ _ (by simp)
  have hB1 : Below W.heap.size W ((W.alloc (.cells (uC s.toL).toArray 52)).alloc (.cells (uC [0, 0, 0, 0, 0, 0, 0, 0]).toArray 52)) := ((Below.refl _ _).alloc (Nat.le_refl _) _).alloc (by simp) _
  generalize (W.alloc (.cells (uC s.toL).toArray 52)).alloc (.cells (uC [0, 0, 0, 0, 0, 0, 0, 0]).toArray 52) = w1 at *
  obtain ⟨hb, hhb⟩ : ∃ b, W.heap.size = b := ⟨_, rfl⟩
  obtain ⟨rb, hrb⟩ : ∃ b, hb + 1 = b := ⟨_, rfl⟩
  rw [hhb] at hH1 hR1 hB1
  rw [hrb] at hR1
  rw [hhb, hrb]
  have hhr : hb < rb := by omega
  replace hhb := Box.mk hhb
  replace hrb := Box.mk hrb
  refine (refK_any w1).mono ?_
  rintro e w2 ⟨rfl, hb2⟩
  have hH2 := keepBlock hb2 hH1
  have hR2 := keepBlock hb2 hR1
  have hl1 := (Array.getElem?_eq_some_iff.1 hR1).1
  have hB2 : Below hb W w2 := hB1.trans (hb2.mono (by omega))
  have hl2 := (Array.getElem?_eq_some_iff.1 hR2).1
  clear hH1 hR1 hB1 hb2 hl1
  replace hH2 := Box.mk hH2
  replace hR2 := Box.mk hR2
  replace hB2 := Box.mk hB2
  go_wp2_with fail
  have hH3 : (w2.alloc (.cells (uC kL).toArray 55)).heap[hb]? = _ := (Below.heap_alloc _ _ _ (by omega)).trans hH2.out
  have hR3 : (w2.alloc (.cells (uC kL).toArray 55)).heap[rb]? = _ := (Below.heap_alloc _ _ _ hl2).trans hR2.out
  have hK3 := heap_alloc_new w2 (.cells (uC kL).toArray 55)
  have hB3 : Below hb W (w2.alloc (.cells (uC kL).toArray 55)) := hB2.out.alloc (by omega) _
  generalize w2.alloc (.cells (uC kL).toArray 55) = w3 at *
  obtain ⟨kb, hkb⟩ : ∃ b, w2.heap.size = b := ⟨_, rfl⟩
  rw [hkb] at hK3
  rw [hkb]
  clear hH2 hR2 hB2
  have hrk : rb < kb := by omega
  replace hkb := Box.mk hkb
  clear hl2
  refine (refWords_any p w3 (by omega)).mono ?_
  rintro e w4 ⟨g, c, rfl, hown, hb4⟩
  rw [hp, hmm] at hown
  rw [hp]
  replace hmm := Box.mk hmm
  replace hp := Box.mk hp
  have hH4 := Box.mk (keepBlock hb4 hH3)
  have hR4 := Box.mk (keepBlock hb4 hR3)
  have hK4 := Box.mk (keepBlock hb4 hK3)
  have hl3 := (Array.getElem?_eq_some_iff.1 hK3).1
  have hB4 := Box.mk (hB3.trans (hb4.mono (by omega)))
  have hl4 := hb4.size
  obtain ⟨B, hB⟩ : ∃ B, w3.heap.size = B := ⟨_, rfl⟩
  rw [hB] at hown hl3 hl4
  clear hH3 hR3 hK3 hB3 hb4 hB
  replace hown : OwnU w4 B (.slice (some ⟨g, 0, none⟩) 16 c) (sched m (16 - 16)) := hown
  replace hown := Box.mk hown
  go_wp2_with fail
  go_loopw [6, 7] (fun v x wr => Below B w4 wr ∧ ∃ j g c, 16 ≤ j ∧ j ≤ 64 ∧ x = .int .i64 (j : Nat) ∧ v = .slice (some ⟨g, 0, none⟩) j c ∧ OwnU wr B (.slice (some ⟨g, 0, none⟩) j c) (sched m (j - 16))) (fun _ x _ => 64 - (intOf x).toNat)
  case atStart => exact ⟨Below.refl _ _, 16, g, c, Nat.le_refl _, by omega, rfl, rfl, hown.out⟩
  case round =>
    clear hown
    obtain ⟨hbr, j, g, c, hj16, hj, rfl, rfl, hown⟩ := hrel
    have hsz : B ≤ wr.heap.size := by have := hbr.size; omega
    have hsl : (sched m (j - 16)).length = j := by rw [sched_length, hm]; omega
    by_cases hlt : j < 64
    · have hlt' : (j : Int) < 64 := by omega
      obtain ⟨i15, h15⟩ : ∃ i, j - 15 = i := ⟨_, rfl⟩
      obtain ⟨i2, h2⟩ : ∃ i, j - 2 = i := ⟨_, rfl⟩
      obtain ⟨i16, h16⟩ : ∃ i, j - 16 = i := ⟨_, rfl⟩
      obtain ⟨i7, h7⟩ : ∃ i, j - 7 = i := ⟨_, rfl⟩
      obtain ⟨x, hx⟩ : ∃ x, (sched m (j - 16))[i15]? = some x := ⟨_, List.getElem?_eq_getElem (by omega)⟩
      obtain ⟨y, hy⟩ : ∃ x, (sched m (j - 16))[i2]? = some x := ⟨_, List.getElem?_eq_getElem (by omega)⟩
      obtain ⟨a, ha⟩ : ∃ x, (sched m (j - 16))[i16]? = some x := ⟨_, List.getElem?_eq_getElem (by omega)⟩
      obtain ⟨b, hb'⟩ : ∃ x, (sched m (j - 16))[i7]? = some x := ⟨_, List.getElem?_eq_getElem (by omega)⟩
      have hne := next_eq hsl h15 h2 h16 h7 ha hb' hx hy
      have hsc : sched m (j + 1 - 16) = sched m (j - 16) ++ [nextW (sched m (j - 16))] := by rw [show j + 1 - 16 = (j - 16) + 1 from by omega, sched]
      rw [← hne] at hsc
      have e15 : (j : Int) - 15 = i15 := by omega
      have e2 : (j : Int) - 2 = i2 := by omega
      have e16 : (j : Int) - 16 = i16 := by omega
      have e7 : (j : Int) - 7 = i7 := by omega
      have l15 : (i15 : Int) < j := by omega
      have l2 : (i2 : Int) < j := by omega
      have l16 : (i16 : Int) < j := by omega
      have l7 : (i7 : Int) < j := by omega
      have c15 := hown.cell (uC_get hx)
      have c2 := hown.cell (uC_get hy)
      have hg := hown.row.2.2.1
      have hC16 := Box.mk (hown.cell (uC_get ha))
      have hC7 := Box.mk (hown.cell (uC_get hb'))
      replace h15 := Box.mk h15
      replace h2 := Box.mk h2
      replace h16 := Box.mk h16
      replace h7 := Box.mk h7
      replace hx := Box.mk hx
      replace hy := Box.mk hy
      replace ha := Box.mk ha
      replace hb' := Box.mk hb'
      replace hne := Box.mk hne
      replace hsc := Box.mk hsc
      replace hsl := Box.mk hsl
      replace hown := Box.mk hown
      replace hbr := Box.mk hbr
      go_wp2_with fail
      refine (refRot_any x 7 _ (by omega) (by omega)).mono ?_
      rintro e w5 ⟨rfl, hb5⟩
      go_wp2_with fail
      refine (refRot_any x 18 _ (by omega) (by omega)).mono ?_
      rintro e w6 ⟨rfl, hb6⟩
      go_wp2_with fail
      refine (refRot_any y 17 _ (by omega) (by omega)).mono ?_
      rintro e w7 ⟨rfl, hb7⟩
      go_wp2_with fail
      refine (refRot_any y 19 _ (by omega) (by omega)).mono ?_
      rintro e w8 ⟨rfl, hb8⟩
      have hP : SinceP wr w8 := (((⟨hb5⟩ : SinceP wr w5).next hb6).next hb7).next hb8
      have k16 : w8.cell? ⟨g, i16, none⟩ = some (.int .u32 (iw a)) := (hP.out.cell (p := ⟨g, i16, none⟩) hg).trans hC16.out
      have k7 : w8.cell? ⟨g, i7, none⟩ = some (.int .u32 (iw b)) := (hP.out.cell (p := ⟨g, i7, none⟩) hg).trans hC7.out
      have hg8 : g < w8.heap.size := by have := hP.out.size; omega
      have hall : ∀ w' : World, True → True := fun _ _ => trivial
      have hO8 := Box.mk (hown.out.below hP.out)
      have hS8 : B ≤ w8.heap.size := by have := hP.out.size; omega
      have hB8 := Box.mk (hbr.out.trans (hP.out.mono hsz))
      clear hb5 hb6 hb7 hb8 c15 c2
      replace hP := Box.mk hP
      go_wp2_with fail
      refine hreg_begin (S := (fun _ => True)) (by kernel_rfl) True.intro (fun hHeld => ?_)
      simp only [List.length_cons, List.length_nil, Nat.zero_add, Nat.reduceAdd, Array.replicate]
      refine hreg_take (i := 0) rfl (by kernel_rfl) (by kernel_rfl) (by kernel_rfl) hreg_panic (by rfl) hHeld ?_
      apply Exists.intro
      refine ⟨fun w' hw' => ?_, ?_⟩
      · have hf := hall w' hw'
        go_simp
        try go_bits
        exact yieldsV_mk rfl
      simp only [Act.put, List.setIfInBounds_toArray, List.set_cons_zero, List.set_cons_succ]
      refine hreg_take (i := 1) rfl (by kernel_rfl) (by kernel_rfl) (by kernel_rfl) hreg_panic (by rfl) hHeld ?_
      apply Exists.intro
      refine ⟨fun w' hw' => ?_, ?_⟩
      · have hf := hall w' hw'
        go_simp
        try go_bits
        exact yieldsV_mk rfl
      simp only [Act.put, List.setIfInBounds_toArray, List.set_cons_zero, List.set_cons_succ]
      refine hreg_take (i := 2) rfl (by kernel_rfl) (by kernel_rfl) (by kernel_rfl) hreg_panic (by rfl) hHeld ?_
      apply Exists.intro
      refine ⟨fun w' hw' => ?_, ?_⟩
      · have hf := hall w' hw'
        go_simp
        try go_bits
        exact yieldsV_mk rfl
      simp only [Act.put, List.setIfInBounds_toArray, List.set_cons_zero, List.set_cons_succ]
      refine hreg_take (i := 3) rfl (by kernel_rfl) (by kernel_rfl) (by kernel_rfl) hreg_panic (by rfl) hHeld ?_
      apply Exists.intro
      refine ⟨fun w' hw' => ?_, ?_⟩
      · have hf := hall w' hw'
        go_simp
        try go_bits
        exact yieldsV_mk rfl
      simp only [Act.put, List.setIfInBounds_toArray, List.set_cons_zero, List.set_cons_succ]
      refine hreg_take (i := 4) rfl (by kernel_rfl) (by kernel_rfl) (by kernel_rfl) hreg_panic (by rfl) hHeld ?_
      apply Exists.intro
      refine ⟨fun w' hw' => ?_, ?_⟩
      · have hf := hall w' hw'
        go_simp
        try go_bits
        exact yieldsV_mk rfl
      simp only [Act.put, List.setIfInBounds_toArray, List.set_cons_zero, List.set_cons_succ]
      refine hreg_take (i := 6) rfl (by kernel_rfl) (by kernel_rfl) (by kernel_rfl) hreg_panic (by rfl) hHeld ?_
      apply Exists.intro
      refine ⟨fun w' hw' => ?_, ?_⟩
      · have hf := hall w' hw'
        go_simp
        try go_bits
        exact yieldsV_mk rfl
      simp only [Act.put, List.setIfInBounds_toArray, List.set_cons_zero, List.set_cons_succ]
      refine hreg_take (i := 8) rfl (by kernel_rfl) (by kernel_rfl) (by kernel_rfl) hreg_panic (by rfl) hHeld ?_
      apply Exists.intro
      refine ⟨fun w' hw' => ?_, ?_⟩
      · have hf := hall w' hw'
        go_simp
        try go_bits
        exact yieldsV_mk rfl
      simp only [Act.put, List.setIfInBounds_toArray, List.set_cons_zero, List.set_cons_succ]
      refine hreg_take (i := 9) rfl (by kernel_rfl) (by kernel_rfl) (by kernel_rfl) hreg_panic (by rfl) hHeld ?_
      apply Exists.intro
      refine ⟨fun w' hw' => ?_, ?_⟩
      · have hf := hall w' hw'
        go_simp
        try go_bits
        exact yieldsV_mk rfl
      simp only [Act.put, List.setIfInBounds_toArray, List.set_cons_zero, List.set_cons_succ]
      refine hreg_take (i := 10) rfl (by kernel_rfl) (by kernel_rfl) (by kernel_rfl) hreg_panic (by rfl) hHeld ?_
      apply Exists.intro
      refine ⟨fun w' hw' => ?_, ?_⟩
      · have hf := hall w' hw'
        go_simp
        try go_bits
        exact yieldsV_mk rfl
      simp only [Act.put, List.setIfInBounds_toArray, List.set_cons_zero, List.set_cons_succ]
      refine hreg_take (i := 11) rfl (by kernel_rfl) (by kernel_rfl) (by kernel_rfl) hreg_panic (by rfl) hHeld ?_
      apply Exists.intro
      refine ⟨fun w' hw' => ?_, ?_⟩
      · have hf := hall w' hw'
        go_simp
        try go_bits
        exact yieldsV_mk rfl
      simp only [Act.put, List.setIfInBounds_toArray, List.set_cons_zero, List.set_cons_succ]
      refine hreg_take (i := 14) rfl (by kernel_rfl) (by kernel_rfl) (by kernel_rfl) hreg_panic (by rfl) hHeld ?_
      apply Exists.intro
      refine ⟨fun w' hw' => ?_, ?_⟩
      · have hf := hall w' hw'
        go_simp
        try go_bits
        exact yieldsV_mk rfl
      simp only [Act.put, List.setIfInBounds_toArray, List.set_cons_zero, List.set_cons_succ]
      refine wpAnyH_ready (rs := [5, 12]) (by kernel_rfl) (by simp) ?_
      refine hreg_event (o := _) rfl (by rfl) (fun K hK => ?_) ?_
      · go_simp
        first
          | skip
        refine hK.out _ _ ?_ (fun hHeld' => ?_)
        · first
            | trivial
            | exact hHeld.next hb
            | exact hHeld
            | exact hHeld.alloc _
            | exact hHeld.setCell (by simp <;> omega) _
            | exact (hHeld.alloc _).alloc _
        replace hHeld := hHeld'
        clear hHeld' hK K
        simp only [Act.put, List.setIfInBounds_toArray, List.set_cons_zero, List.set_cons_succ]
        refine hreg_take (i := 7) rfl (by kernel_rfl) (by kernel_rfl) (by kernel_rfl) hreg_panic (by rfl) hHeld ?_
        apply Exists.intro
        refine ⟨fun w' hw' => ?_, ?_⟩
        · have hf := hall w' hw'
          go_simp
          try go_bits
          exact yieldsV_mk rfl
        simp only [Act.put, List.setIfInBounds_toArray, List.set_cons_zero, List.set_cons_succ]
        refine wpAnyH_ready (rs := [12]) (by kernel_rfl) (by simp) ?_
        refine hreg_event (o := _) rfl (by rfl) (fun K hK => ?_) ?_
        · go_simp
          first
            | skip
          refine hK.out _ _ ?_ (fun hHeld' => ?_)
          · first
              | trivial
              | exact hHeld.next hb
              | exact hHeld
              | exact hHeld.alloc _
              | exact hHeld.setCell (by simp <;> omega) _
              | exact (hHeld.alloc _).alloc _
          replace hHeld := hHeld'
          clear hHeld' hK K
          simp only [Act.put, List.setIfInBounds_toArray, List.set_cons_zero, List.set_cons_succ]
          refine hreg_take (i := 13) rfl (by kernel_rfl) (by kernel_rfl) (by kernel_rfl) hreg_panic (by rfl) hHeld ?_
          apply Exists.intro
          refine ⟨fun w' hw' => ?_, ?_⟩
          · have hf := hall w' hw'
            go_simp
            try go_bits
            exact yieldsV_mk rfl
          simp only [Act.put, List.setIfInBounds_toArray, List.set_cons_zero, List.set_cons_succ]
          refine hreg_take (i := 15) rfl (by kernel_rfl) (by kernel_rfl) (by kernel_rfl) hreg_panic (by rfl) hHeld ?_
          apply Exists.intro
          refine ⟨fun w' hw' => ?_, ?_⟩
          · have hf := hall w' hw'
            go_simp
            try go_bits
            exact yieldsV_mk rfl
          simp only [Act.put, List.setIfInBounds_toArray, List.set_cons_zero, List.set_cons_succ]
          refine wpAnyH_ready (rs := [16]) (by kernel_rfl) (by simp) ?_
          refine hreg_event (o := _) rfl (by rfl) (fun K hK => ?_) ?_
          · go_simp
            first
              | skip
            refine hK.out _ _ ?_ (fun hHeld' => ?_)
            · first
                | trivial
                | exact hHeld.next hb
                | exact hHeld
                | exact hHeld.alloc _
                | exact hHeld.setCell (by simp <;> omega) _
                | exact (hHeld.alloc _).alloc _
            replace hHeld := hHeld'
            clear hHeld' hK K
            simp only [Act.put, List.setIfInBounds_toArray, List.set_cons_zero, List.set_cons_succ]
            refine wpAnyH_ready (rs := [17]) (by kernel_rfl) (by simp) ?_
            refine hreg_event (o := _) rfl (by rfl) (fun K hK => ?_) ?_
            · go_simp
              first
                | (obtain ⟨g', c', w', hap, hown', hbd', hs2⟩ := app_u32d (ty := 57) hO8.out hS8 (a + (rotr x 7 ^^^ rotr x 18 ^^^ x >>> 3) + b + (rotr y 17 ^^^ rotr y 19 ^^^ y >>> 10)) (by rw [hsl.out]; omega); rw [hsl.out] at hap hown'; rw [hap])
                | skip
              refine hK.out _ _ ?_ (fun hHeld' => ?_)
              · first
                  | trivial
                  | exact hHeld.next hb
                  | exact hHeld
                  | exact hHeld.alloc _
                  | exact hHeld.setCell (by simp <;> omega) _
                  | exact (hHeld.alloc _).alloc _
              replace hHeld := hHeld'
              clear hHeld' hK K
              simp only [Act.put, List.setIfInBounds_toArray, List.set_cons_zero, List.set_cons_succ]
              refine hreg_take (i := 18) rfl (by kernel_rfl) (by kernel_rfl) (by kernel_rfl) hreg_panic (by rfl) hHeld ?_
              apply Exists.intro
              refine ⟨fun w' hw' => ?_, ?_⟩
              · have hf := hall w' hw'
                go_simp
                try go_bits
                exact yieldsV_mk rfl
              simp only [Act.put, List.setIfInBounds_toArray, List.set_cons_zero, List.set_cons_succ]
              refine wpAnyH_done (by kernel_rfl) ?_ _
              refine NoPanic.normal ?_
              clear hHeld hall
              go_wp2
              go_roundw
              case rel => exact ⟨hB8.out.trans hbd', j + 1, g', c', by omega, by omega, by go_num, rfl, by rw [hsc.out]; exact hown'⟩
              case measure => simp [intOf]; omega
            exact AllReadyH.nil
          exact AllReadyH.nil
        exact AllReadyH.nil
      refine hreg_event (o := _) rfl (by rfl) (fun K hK => ?_) ?_
      · go_simp
        first
          | skip
        refine hK.out _ _ ?_ (fun hHeld' => ?_)
        · first
            | trivial
            | exact hHeld.next hb
            | exact hHeld
            | exact hHeld.alloc _
            | exact hHeld.setCell (by simp <;> omega) _
            | exact (hHeld.alloc _).alloc _
        replace hHeld := hHeld'
        clear hHeld' hK K
        simp only [Act.put, List.setIfInBounds_toArray, List.set_cons_zero, List.set_cons_succ]
        refine wpAnyH_ready (rs := [5]) (by kernel_rfl) (by simp) ?_
        refine hreg_event (o := _) rfl (by rfl) (fun K hK => ?_) ?_
        · go_simp
          first
            | skip
          refine hK.out _ _ ?_ (fun hHeld' => ?_)
          · first
              | trivial
              | exact hHeld.next hb
              | exact hHeld
              | exact hHeld.alloc _
              | exact hHeld.setCell (by simp <;> omega) _
              | exact (hHeld.alloc _).alloc _
          replace hHeld := hHeld'
          clear hHeld' hK K
          simp only [Act.put, List.setIfInBounds_toArray, List.set_cons_zero, List.set_cons_succ]
          refine hreg_take (i := 7) rfl (by kernel_rfl) (by kernel_rfl) (by kernel_rfl) hreg_panic (by rfl) hHeld ?_
          apply Exists.intro
          refine ⟨fun w' hw' => ?_, ?_⟩
          · have hf := hall w' hw'
            go_simp
            try go_bits
            exact yieldsV_mk rfl
          simp only [Act.put, List.setIfInBounds_toArray, List.set_cons_zero, List.set_cons_succ]
          refine hreg_take (i := 13) rfl (by kernel_rfl) (by kernel_rfl) (by kernel_rfl) hreg_panic (by rfl) hHeld ?_
          apply Exists.intro
          refine ⟨fun w' hw' => ?_, ?_⟩
          · have hf := hall w' hw'
            go_simp
            try go_bits
            exact yieldsV_mk rfl
          simp only [Act.put, List.setIfInBounds_toArray, List.set_cons_zero, List.set_cons_succ]
          refine hreg_take (i := 15) rfl (by kernel_rfl) (by kernel_rfl) (by kernel_rfl) hreg_panic (by rfl) hHeld ?_
          apply Exists.intro
          refine ⟨fun w' hw' => ?_, ?_⟩
          · have hf := hall w' hw'
            go_simp
            try go_bits
            exact yieldsV_mk rfl
          simp only [Act.put, List.setIfInBounds_toArray, List.set_cons_zero, List.set_cons_succ]
          refine wpAnyH_ready (rs := [16]) (by kernel_rfl) (by simp) ?_
          refine hreg_event (o := _) rfl (by rfl) (fun K hK => ?_) ?_
          · go_simp
            first
              | skip
            refine hK.out _ _ ?_ (fun hHeld' => ?_)
            · first
                | trivial
                | exact hHeld.next hb
                | exact hHeld
                | exact hHeld.alloc _
                | exact hHeld.setCell (by simp <;> omega) _
                | exact (hHeld.alloc _).alloc _
            replace hHeld := hHeld'
            clear hHeld' hK K
            simp only [Act.put, List.setIfInBounds_toArray, List.set_cons_zero, List.set_cons_succ]
            refine wpAnyH_ready (rs := [17]) (by kernel_rfl) (by simp) ?_
            refine hreg_event (o := _) rfl (by rfl) (fun K hK => ?_) ?_
            · go_simp
              first
                | (obtain ⟨g', c', w', hap, hown', hbd', hs2⟩ := app_u32d (ty := 57) hO8.out hS8 (a + (rotr x 7 ^^^ rotr x 18 ^^^ x >>> 3) + b + (rotr y 17 ^^^ rotr y 19 ^^^ y >>> 10)) (by rw [hsl.out]; omega); rw [hsl.out] at hap hown'; rw [hap])
                | skip
              refine hK.out _ _ ?_ (fun hHeld' => ?_)
              · first
                  | trivial
                  | exact hHeld.next hb
                  | exact hHeld
                  | exact hHeld.alloc _
                  | exact hHeld.setCell (by simp <;> omega) _
                  | exact (hHeld.alloc _).alloc _
              replace hHeld := hHeld'
              clear hHeld' hK K
              simp only [Act.put, List.setIfInBounds_toArray, List.set_cons_zero, List.set_cons_succ]
              refine hreg_take (i := 18) rfl (by kernel_rfl) (by kernel_rfl) (by kernel_rfl) hreg_panic (by rfl) hHeld ?_
              apply Exists.intro
              refine ⟨fun w' hw' => ?_, ?_⟩
              · have hf := hall w' hw'
                go_simp
                try go_bits
                exact yieldsV_mk rfl
              simp only [Act.put, List.setIfInBounds_toArray, List.set_cons_zero, List.set_cons_succ]
              refine wpAnyH_done (by kernel_rfl) ?_ _
              refine NoPanic.normal ?_
              clear hHeld hall
              go_wp2
              go_roundw
              case rel => exact ⟨hB8.out.trans hbd', j + 1, g', c', by omega, by omega, by go_num, rfl, by rw [hsc.out]; exact hown'⟩
              case measure => simp [intOf]; omega
            exact AllReadyH.nil
          exact AllReadyH.nil
        exact AllReadyH.nil
      exact AllReadyH.nil
    · obtain rfl : j = 64 := by omega
      have hge : ¬ ((64 : Nat) : Int) < 64 := by omega
      have hHr := keepBlock (hbr.mono (Nat.le_refl _) |>.mono (Nat.zero_le _) |> fun _ => Below.refl _ wr) ((hbr.block hb (by omega)).trans hH4.out)
      have hRr := Box.mk ((hbr.block rb (by omega)).trans hR4.out)
      have hKr := Box.mk ((hbr.block kb (by omega)).trans hK4.out)
      have hBr := Box.mk (hB4.out.trans (hbr.mono (by omega)))
      have hrowH := uC_row8 hHr
      have hOr := Box.mk hown
      replace hHr := Box.mk hHr
      clear hown hbr hB4 hH4 hR4 hK4
      replace hsl := Box.mk hsl
      go_wp2_with fail
      have hV : (wr.alloc (.cells (uC s.toL).toArray 52)).heap[wr.heap.size]? = _ := heap_alloc_new wr _
      have hv1 : Below wr.heap.size wr (wr.alloc (.cells (uC s.toL).toArray 52)) := (Below.refl _ _).alloc (Nat.le_refl _) _
      have hHl : hb < wr.heap.size := by omega
      have hRl : rb < wr.heap.size := by omega
      have hKl : kb < wr.heap.size := by omega
      have hGl : g < wr.heap.size := hOr.out.row.2.2.1
      obtain ⟨vb, hvb⟩ : ∃ b, wr.heap.size = b := ⟨_, rfl⟩
      rw [hvb] at hV hv1 hHl hRl hKl hGl
      rw [hvb]
      replace hvb := Box.mk hvb
      generalize wr.alloc (.cells (uC s.toL).toArray 52) = wv at *
      have hHv := Box.mk ((hv1.block hb hHl).trans hHr.out)
      have hRv := Box.mk ((hv1.block rb hRl).trans hRr.out)
      have hKv := Box.mk ((hv1.block kb hKl).trans hKr.out)
      have hGv : ∀ (i : Nat) (x : UInt32), (sched m 48)[i]? = some x → wv.cell? ⟨g, i, none⟩ = some (.int .u32 (iw x)) := fun i x hx => (hv1.cell (p := ⟨g, i, none⟩) hGl).trans (hOr.out.cell (uC_get hx))
      have hBv := Box.mk (hBr.out.trans (hv1.mono (by omega)))
      clear hHr hRr hKr hBr hOr hrowH hv1
      replace hGv := Box.mk hGv
      have hvl := (Array.getElem?_eq_some_iff.1 hV).1
      replace hV := Box.mk hV
      go_wp2_with fail
      go_loopw [13] (fun x wr => Below vb wv wr ∧ ∃ j : Nat, j ≤ 64 ∧ x = .int .i64 j ∧ wr.heap[vb]? = some (.cells (uC (runW m s j).toL).toArray 52 (0, 0))) (fun x _ => 64 - (intOf x).toNat)
      case atStart => exact ⟨Below.refl _ _, 0, by omega, rfl, hV.out⟩
      case round =>
        clear hV
        obtain ⟨hbr, j, hj, rfl, hV⟩ := hrel
        obtain ⟨r, hr⟩ : ∃ r, runW m s j = r := ⟨_, rfl⟩
        rw [hr] at hV
        have hvlr : vb < wr.heap.size := (Array.getElem?_eq_some_iff.1 hV).1
        by_cases hlt : j < 64
        · have hlt' : (j : Int) < 64 := by omega
          obtain ⟨kw, hkw⟩ : ∃ x, kL[j]? = some x := ⟨_, List.getElem?_eq_getElem (by rw [kL_length]; exact hlt)⟩
          obtain ⟨xn, hxn⟩ : ∃ x, (sched m 48)[j]? = some x := ⟨_, List.getElem?_eq_getElem (by rw [sched_length, hm]; omega)⟩
          have hstep : runW m s (j + 1) = rnd r kw xn := by
            rw [runW, hr, List.getD_eq_getElem?_getD, hkw]
            unfold Wd
            rw [List.getD_eq_getElem?_getD, hxn]; rfl
          have cK : wr.cell? ⟨kb, j, none⟩ = some (.int .u32 (iw kw)) := uC_cell ((hbr.block kb hKl).trans hKv.out) hkw
          have cG : wr.cell? ⟨g, j, none⟩ = some (.int .u32 (iw xn)) := (hbr.cell (p := ⟨g, j, none⟩) hGl).trans (hGv.out j xn hxn)
          have d0 := uC_cell hV (i := 0) (x := r.a) rfl
          have d1 := uC_cell hV (i := 1) (x := r.b) rfl
          have d2 := uC_cell hV (i := 2) (x := r.c) rfl
          have d3 := uC_cell hV (i := 3) (x := r.d) rfl
          have d4 := uC_cell hV (i := 4) (x := r.e) rfl
          have d5 := uC_cell hV (i := 5) (x := r.f) rfl
          have d6 := uC_cell hV (i := 6) (x := r.g) rfl
          have d7 := uC_cell hV (i := 7) (x := r.z) rfl
          have hkl : kb < wr.heap.size := by omega
          have hgl : g < wr.heap.size := by omega
          have hall : ∀ w', SinceP wr w' → (w'.cell? ⟨kb, j, none⟩ = some (.int .u32 (iw kw)) ∧ w'.cell? ⟨g, j, none⟩ = some (.int .u32 (iw xn)) ∧ w'.cell? ⟨vb, 1, none⟩ = some (.int .u32 (iw r.b)) ∧ w'.cell? ⟨vb, 2, none⟩ = some (.int .u32 (iw r.c)) ∧ w'.cell? ⟨vb, 5, none⟩ = some (.int .u32 (iw r.f)) ∧ w'.cell? ⟨vb, 6, none⟩ = some (.int .u32 (iw r.g)) ∧ w'.cell? ⟨vb, 7, none⟩ = some (.int .u32 (iw r.z))) := fun w' h =>
            ⟨(h.out.cell (p := ⟨kb, j, none⟩) hkl).trans cK, (h.out.cell (p := ⟨g, j, none⟩) hgl).trans cG, (h.out.cell (p := ⟨vb, 1, none⟩) hvlr).trans d1, (h.out.cell (p := ⟨vb, 2, none⟩) hvlr).trans d2, (h.out.cell (p := ⟨vb, 5, none⟩) hvlr).trans d5, (h.out.cell (p := ⟨vb, 6, none⟩) hvlr).trans d6, (h.out.cell (p := ⟨vb, 7, none⟩) hvlr).trans d7⟩
          have d3' := Box.mk d3
          replace hkw := Box.mk hkw
          replace hxn := Box.mk hxn
          replace hstep := Box.mk hstep
          replace hr := Box.mk hr
          replace hV := Box.mk hV
          replace hbr := Box.mk hbr
          go_wp2_with fail
          refine hreg_begin (S := SinceP wr) (by kernel_rfl) (SinceP.refl _).drew (fun hHeld => ?_)
          simp only [List.length_cons, List.length_nil, Nat.zero_add, Nat.reduceAdd, Array.replicate]
          refine hreg_take (i := 0) rfl (by kernel_rfl) (by kernel_rfl) (by kernel_rfl) hreg_panic (by rfl) hHeld ?_
          apply Exists.intro
          refine ⟨fun w' hw' => ?_, ?_⟩
          · have hf := hall w' hw'
            go_simp
            try go_bits
            exact yieldsV_mk rfl
          simp only [Act.put, List.setIfInBounds_toArray, List.set_cons_zero, List.set_cons_succ]
          refine hreg_take (i := 1) rfl (by kernel_rfl) (by kernel_rfl) (by kernel_rfl) hreg_panic (by rfl) hHeld ?_
          apply Exists.intro
          refine ⟨fun w' hw' => ?_, ?_⟩
          · have hf := hall w' hw'
            go_simp
            try go_bits
            exact yieldsV_mk rfl
          simp only [Act.put, List.setIfInBounds_toArray, List.set_cons_zero, List.set_cons_succ]
          refine hreg_take (i := 2) rfl (by kernel_rfl) (by kernel_rfl) (by kernel_rfl) hreg_panic (by rfl) hHeld ?_
          apply Exists.intro
          refine ⟨fun w' hw' => ?_, ?_⟩
          · have hf := hall w' hw'
            go_simp
            try go_bits
            exact yieldsV_mk rfl
          simp only [Act.put, List.setIfInBounds_toArray, List.set_cons_zero, List.set_cons_succ]
          refine hreg_take (i := 4) rfl (by kernel_rfl) (by kernel_rfl) (by kernel_rfl) hreg_panic (by rfl) hHeld ?_
          apply Exists.intro
          refine ⟨fun w' hw' => ?_, ?_⟩
          · have hf := hall w' hw'
            go_simp
            try go_bits
            exact yieldsV_mk rfl
          simp only [Act.put, List.setIfInBounds_toArray, List.set_cons_zero, List.set_cons_succ]
          refine hreg_take (i := 7) rfl (by kernel_rfl) (by kernel_rfl) (by kernel_rfl) hreg_panic (by rfl) hHeld ?_
          apply Exists.intro
          refine ⟨fun w' hw' => ?_, ?_⟩
          · have hf := hall w' hw'
            go_simp
            try go_bits
            exact yieldsV_mk rfl
          simp only [Act.put, List.setIfInBounds_toArray, List.set_cons_zero, List.set_cons_succ]
          refine hreg_take (i := 11) rfl (by kernel_rfl) (by kernel_rfl) (by kernel_rfl) hreg_panic (by rfl) hHeld ?_
          apply Exists.intro
          refine ⟨fun w' hw' => ?_, ?_⟩
          · have hf := hall w' hw'
            go_simp
            try go_bits
            exact yieldsV_mk rfl
          simp only [Act.put, List.setIfInBounds_toArray, List.set_cons_zero, List.set_cons_succ]
          refine hreg_take (i := 12) rfl (by kernel_rfl) (by kernel_rfl) (by kernel_rfl) hreg_panic (by rfl) hHeld ?_
          apply Exists.intro
          refine ⟨fun w' hw' => ?_, ?_⟩
          · have hf := hall w' hw'
            go_simp
            try go_bits
            exact yieldsV_mk rfl
          simp only [Act.put, List.setIfInBounds_toArray, List.set_cons_zero, List.set_cons_succ]
          refine hreg_take (i := 13) rfl (by kernel_rfl) (by kernel_rfl) (by kernel_rfl) hreg_panic (by rfl) hHeld ?_
          apply Exists.intro
          refine ⟨fun w' hw' => ?_, ?_⟩
          · have hf := hall w' hw'
            go_simp
            try go_bits
            exact yieldsV_mk rfl
          simp only [Act.put, List.setIfInBounds_toArray, List.set_cons_zero, List.set_cons_succ]
          refine hreg_take (i := 14) rfl (by kernel_rfl) (by kernel_rfl) (by kernel_rfl) hreg_panic (by rfl) hHeld ?_
          apply Exists.intro
          refine ⟨fun w' hw' => ?_, ?_⟩
          · have hf := hall w' hw'
            go_simp
            try go_bits
            exact yieldsV_mk rfl
          simp only [Act.put, List.setIfInBounds_toArray, List.set_cons_zero, List.set_cons_succ]
          refine hreg_take (i := 15) rfl (by kernel_rfl) (by kernel_rfl) (by kernel_rfl) hreg_panic (by rfl) hHeld ?_
          apply Exists.intro
          refine ⟨fun w' hw' => ?_, ?_⟩
          · have hf := hall w' hw'
            go_simp
            try go_bits
            exact yieldsV_mk rfl
          simp only [Act.put, List.setIfInBounds_toArray, List.set_cons_zero, List.set_cons_succ]
          refine hreg_take (i := 16) rfl (by kernel_rfl) (by kernel_rfl) (by kernel_rfl) hreg_panic (by rfl) hHeld ?_
          apply Exists.intro
          refine ⟨fun w' hw' => ?_, ?_⟩
          · have hf := hall w' hw'
            go_simp
            try go_bits
            exact yieldsV_mk rfl
          simp only [Act.put, List.setIfInBounds_toArray, List.set_cons_zero, List.set_cons_succ]
          refine hreg_take (i := 17) rfl (by kernel_rfl) (by kernel_rfl) (by kernel_rfl) hreg_panic (by rfl) hHeld ?_
          apply Exists.intro
          refine ⟨fun w' hw' => ?_, ?_⟩
          · have hf := hall w' hw'
            go_simp
            try go_bits
            exact yieldsV_mk rfl
          simp only [Act.put, List.setIfInBounds_toArray, List.set_cons_zero, List.set_cons_succ]
          refine hreg_take (i := 18) rfl (by kernel_rfl) (by kernel_rfl) (by kernel_rfl) hreg_panic (by rfl) hHeld ?_
          apply Exists.intro
          refine ⟨fun w' hw' => ?_, ?_⟩
          · have hf := hall w' hw'
            go_simp
            try go_bits
            exact yieldsV_mk rfl
          simp only [Act.put, List.setIfInBounds_toArray, List.set_cons_zero, List.set_cons_succ]
          refine hreg_take (i := 19) rfl (by kernel_rfl) (by kernel_rfl) (by kernel_rfl) hreg_panic (by rfl) hHeld ?_
          apply Exists.intro
          refine ⟨fun w' hw' => ?_, ?_⟩
          · have hf := hall w' hw'
            go_simp
            try go_bits
            exact yieldsV_mk rfl
          simp only [Act.put, List.setIfInBounds_toArray, List.set_cons_zero, List.set_cons_succ]
          refine hreg_take (i := 20) rfl (by kernel_rfl) (by kernel_rfl) (by kernel_rfl) hreg_panic (by rfl) hHeld ?_
          apply Exists.intro
          refine ⟨fun w' hw' => ?_, ?_⟩
          · have hf := hall w' hw'
            go_simp
            try go_bits
            exact yieldsV_mk rfl
          simp only [Act.put, List.setIfInBounds_toArray, List.set_cons_zero, List.set_cons_succ]
          refine hreg_take (i := 22) rfl (by kernel_rfl) (by kernel_rfl) (by kernel_rfl) hreg_panic (by rfl) hHeld ?_
          apply Exists.intro
          refine ⟨fun w' hw' => ?_, ?_⟩
          · have hf := hall w' hw'
            go_simp
            try go_bits
            exact yieldsV_mk rfl
          simp only [Act.put, List.setIfInBounds_toArray, List.set_cons_zero, List.set_cons_succ]
          refine hreg_take (i := 23) rfl (by kernel_rfl) (by kernel_rfl) (by kernel_rfl) hreg_panic (by rfl) hHeld ?_
          apply Exists.intro
          refine ⟨fun w' hw' => ?_, ?_⟩
          · have hf := hall w' hw'
            go_simp
            try go_bits
            exact yieldsV_mk rfl
          simp only [Act.put, List.setIfInBounds_toArray, List.set_cons_zero, List.set_cons_succ]
          refine hreg_take (i := 24) rfl (by kernel_rfl) (by kernel_rfl) (by kernel_rfl) hreg_panic (by rfl) hHeld ?_
          apply Exists.intro
          refine ⟨fun w' hw' => ?_, ?_⟩
          · have hf := hall w' hw'
            go_simp
            try go_bits
            exact yieldsV_mk rfl
          simp only [Act.put, List.setIfInBounds_toArray, List.set_cons_zero, List.set_cons_succ]
          refine hreg_take (i := 26) rfl (by kernel_rfl) (by kernel_rfl) (by kernel_rfl) hreg_panic (by rfl) hHeld ?_
          apply Exists.intro
          refine ⟨fun w' hw' => ?_, ?_⟩
          · have hf := hall w' hw'
            go_simp
            try go_bits
            exact yieldsV_mk rfl
          simp only [Act.put, List.setIfInBounds_toArray, List.set_cons_zero, List.set_cons_succ]
          refine hreg_take (i := 27) rfl (by kernel_rfl) (by kernel_rfl) (by kernel_rfl) hreg_panic (by rfl) hHeld ?_
          apply Exists.intro
          refine ⟨fun w' hw' => ?_, ?_⟩
          · have hf := hall w' hw'
            go_simp
            try go_bits
            exact yieldsV_mk rfl
          simp only [Act.put, List.setIfInBounds_toArray, List.set_cons_zero, List.set_cons_succ]
          refine hreg_take (i := 28) rfl (by kernel_rfl) (by kernel_rfl) (by kernel_rfl) hreg_panic (by rfl) hHeld ?_
          apply Exists.intro
          refine ⟨fun w' hw' => ?_, ?_⟩
          · have hf := hall w' hw'
            go_simp
            try go_bits
            exact yieldsV_mk rfl
          simp only [Act.put, List.setIfInBounds_toArray, List.set_cons_zero, List.set_cons_succ]
          refine hreg_take (i := 29) rfl (by kernel_rfl) (by kernel_rfl) (by kernel_rfl) hreg_panic (by rfl) hHeld ?_
          apply Exists.intro
          refine ⟨fun w' hw' => ?_, ?_⟩
          · have hf := hall w' hw'
            go_simp
            try go_bits
            exact yieldsV_mk rfl
          simp only [Act.put, List.setIfInBounds_toArray, List.set_cons_zero, List.set_cons_succ]
          refine wpAnyH_ready (rs := [3]) (by kernel_rfl) (by simp) ?_
          refine hreg_event (o := _) rfl (by rfl) (fun K hK => ?_) ?_
          · go_simp
            first
              | (go_at_call 28; refine (refRot_any r.e 6 _ (by omega) (by omega)).mono ?_; rintro e v1 ⟨rfl, hbb⟩)
              | skip
            refine hK.out _ _ ?_ (fun hHeld' => ?_)
            · first
                | exact hHeld.next hbb
                | exact hHeld.next hb
                | exact hHeld
                | exact hHeld.alloc _
                | exact hHeld.setCell (by simp <;> omega) _
                | exact (hHeld.alloc _).alloc _
            replace hHeld := hHeld'
            clear hHeld' hK K
            simp only [Act.put, List.setIfInBounds_toArray, List.set_cons_zero, List.set_cons_succ]
            refine wpAnyH_ready (rs := [5]) (by kernel_rfl) (by simp) ?_
            refine hreg_event (o := _) rfl (by rfl) (fun K hK => ?_) ?_
            · go_simp
              first
                | (go_at_call 28; refine (refRot_any r.e 11 _ (by omega) (by omega)).mono ?_; rintro e v2 ⟨rfl, hbb⟩)
                | skip
              refine hK.out _ _ ?_ (fun hHeld' => ?_)
              · first
                  | exact hHeld.next hbb
                  | exact hHeld.next hb
                  | exact hHeld
                  | exact hHeld.alloc _
                  | exact hHeld.setCell (by simp <;> omega) _
                  | exact (hHeld.alloc _).alloc _
              replace hHeld := hHeld'
              clear hHeld' hK K
              simp only [Act.put, List.setIfInBounds_toArray, List.set_cons_zero, List.set_cons_succ]
              refine hreg_take (i := 6) rfl (by kernel_rfl) (by kernel_rfl) (by kernel_rfl) hreg_panic (by rfl) hHeld ?_
              apply Exists.intro
              refine ⟨fun w' hw' => ?_, ?_⟩
              · have hf := hall w' hw'
                go_simp
                try go_bits
                exact yieldsV_mk rfl
              simp only [Act.put, List.setIfInBounds_toArray, List.set_cons_zero, List.set_cons_succ]
              refine wpAnyH_ready (rs := [8]) (by kernel_rfl) (by simp) ?_
              refine hreg_event (o := _) rfl (by rfl) (fun K hK => ?_) ?_
              · go_simp
                first
                  | (go_at_call 28; refine (refRot_any r.e 25 _ (by omega) (by omega)).mono ?_; rintro e v3 ⟨rfl, hbb⟩)
                  | skip
                refine hK.out _ _ ?_ (fun hHeld' => ?_)
                · first
                    | exact hHeld.next hbb
                    | exact hHeld.next hb
                    | exact hHeld
                    | exact hHeld.alloc _
                    | exact hHeld.setCell (by simp <;> omega) _
                    | exact (hHeld.alloc _).alloc _
                replace hHeld := hHeld'
                clear hHeld' hK K
                simp only [Act.put, List.setIfInBounds_toArray, List.set_cons_zero, List.set_cons_succ]
                refine hreg_take (i := 9) rfl (by kernel_rfl) (by kernel_rfl) (by kernel_rfl) hreg_panic (by rfl) hHeld ?_
                apply Exists.intro
                refine ⟨fun w' hw' => ?_, ?_⟩
                · have hf := hall w' hw'
                  go_simp
                  try go_bits
                  exact yieldsV_mk rfl
                simp only [Act.put, List.setIfInBounds_toArray, List.set_cons_zero, List.set_cons_succ]
                refine hreg_take (i := 10) rfl (by kernel_rfl) (by kernel_rfl) (by kernel_rfl) hreg_panic (by rfl) hHeld ?_
                apply Exists.intro
                refine ⟨fun w' hw' => ?_, ?_⟩
                · have hf := hall w' hw'
                  go_simp
                  try go_bits
                  exact yieldsV_mk rfl
                simp only [Act.put, List.setIfInBounds_toArray, List.set_cons_zero, List.set_cons_succ]
                refine hreg_take (i := 21) rfl (by kernel_rfl) (by kernel_rfl) (by kernel_rfl) hreg_panic (by rfl) hHeld ?_
                apply Exists.intro
                refine ⟨fun w' hw' => ?_, ?_⟩
                · have hf := hall w' hw'
                  go_simp
                  try go_bits
                  exact yieldsV_mk rfl
                simp only [Act.put, List.setIfInBounds_toArray, List.set_cons_zero, List.set_cons_succ]
                refine hreg_take (i := 25) rfl (by kernel_rfl) (by kernel_rfl) (by kernel_rfl) hreg_panic (by rfl) hHeld ?_
                apply Exists.intro
                refine ⟨fun w' hw' => ?_, ?_⟩
                · have hf := hall w' hw'
                  go_simp
                  try go_bits
                  exact yieldsV_mk rfl
                simp only [Act.put, List.setIfInBounds_toArray, List.set_cons_zero, List.set_cons_succ]
                refine hreg_take (i := 30) rfl (by kernel_rfl) (by kernel_rfl) (by kernel_rfl) hreg_panic (by rfl) hHeld ?_
                apply Exists.intro
                refine ⟨fun w' hw' => ?_, ?_⟩
                · have hf := hall w' hw'
                  go_simp
                  try go_bits
                  exact yieldsV_mk rfl
                simp only [Act.put, List.setIfInBounds_toArray, List.set_cons_zero, List.set_cons_succ]
                refine hreg_take (i := 31) rfl (by kernel_rfl) (by kernel_rfl) (by kernel_rfl) hreg_panic (by rfl) hHeld ?_
                apply Exists.intro
                refine ⟨fun w' hw' => ?_, ?_⟩
                · have hf := hall w' hw'
                  go_simp
                  try go_bits
                  exact yieldsV_mk rfl
                simp only [Act.put, List.setIfInBounds_toArray, List.set_cons_zero, List.set_cons_succ]
                refine wpAnyH_done (by kernel_rfl) ?_ _
                refine NoPanic.normal ?_
                rw [ch_eq]
                obtain ⟨t, ht⟩ : ∃ t, r.z + (rotr r.e 6 ^^^ rotr r.e 11 ^^^ rotr r.e 25) + chW r.e r.f r.g + kw + xn = t := ⟨_, rfl⟩
                rw [ht]
                have hst' : Box (rnd r kw xn = ⟨t + ((rotr r.a 2 ^^^ rotr r.a 13 ^^^ rotr r.a 22) + majW r.a r.b r.c), r.a, r.b, r.c, r.d + t, r.e, r.f, r.g⟩) := Box.mk (by rw [← ht]; rfl)
                replace ht := Box.mk ht
                have hP3 : SinceP wr v3 := hHeld
                clear hHeld hbb
                go_wp2_with fail
                refine hreg_begin (S := SinceP wr) (by kernel_rfl) hP3.drew (fun hHeld => ?_)
                simp only [List.length_cons, List.length_nil, Nat.zero_add, Nat.reduceAdd, Array.replicate]
                refine hreg_take (i := 0) rfl (by kernel_rfl) (by kernel_rfl) (by kernel_rfl) hreg_panic (by rfl) hHeld ?_
                apply Exists.intro
                refine ⟨fun w' hw' => ?_, ?_⟩
                · have hf := hall w' hw'
                  go_simp
                  try go_bits
                  exact yieldsV_mk rfl
                simp only [Act.put, List.setIfInBounds_toArray, List.set_cons_zero, List.set_cons_succ]
                refine hreg_take (i := 2) rfl (by kernel_rfl) (by kernel_rfl) (by kernel_rfl) hreg_panic (by rfl) hHeld ?_
                apply Exists.intro
                refine ⟨fun w' hw' => ?_, ?_⟩
                · have hf := hall w' hw'
                  go_simp
                  try go_bits
                  exact yieldsV_mk rfl
                simp only [Act.put, List.setIfInBounds_toArray, List.set_cons_zero, List.set_cons_succ]
                refine hreg_take (i := 5) rfl (by kernel_rfl) (by kernel_rfl) (by kernel_rfl) hreg_panic (by rfl) hHeld ?_
                apply Exists.intro
                refine ⟨fun w' hw' => ?_, ?_⟩
                · have hf := hall w' hw'
                  go_simp
                  try go_bits
                  exact yieldsV_mk rfl
                simp only [Act.put, List.setIfInBounds_toArray, List.set_cons_zero, List.set_cons_succ]
                refine hreg_take (i := 8) rfl (by kernel_rfl) (by kernel_rfl) (by kernel_rfl) hreg_panic (by rfl) hHeld ?_
                apply Exists.intro
                refine ⟨fun w' hw' => ?_, ?_⟩
                · have hf := hall w' hw'
                  go_simp
                  try go_bits
                  exact yieldsV_mk rfl
                simp only [Act.put, List.setIfInBounds_toArray, List.set_cons_zero, List.set_cons_succ]
                refine hreg_take (i := 9) rfl (by kernel_rfl) (by kernel_rfl) (by kernel_rfl) hreg_panic (by rfl) hHeld ?_
                apply Exists.intro
                refine ⟨fun w' hw' => ?_, ?_⟩
                · have hf := hall w' hw'
                  go_simp
                  try go_bits
                  exact yieldsV_mk rfl
                simp only [Act.put, List.setIfInBounds_toArray, List.set_cons_zero, List.set_cons_succ]
                refine hreg_take (i := 10) rfl (by kernel_rfl) (by kernel_rfl) (by kernel_rfl) hreg_panic (by rfl) hHeld ?_
                apply Exists.intro
                refine ⟨fun w' hw' => ?_, ?_⟩
                · have hf := hall w' hw'
                  go_simp
                  try go_bits
                  exact yieldsV_mk rfl
                simp only [Act.put, List.setIfInBounds_toArray, List.set_cons_zero, List.set_cons_succ]
                refine hreg_take (i := 11) rfl (by kernel_rfl) (by kernel_rfl) (by kernel_rfl) hreg_panic (by rfl) hHeld ?_
                apply Exists.intro
                refine ⟨fun w' hw' => ?_, ?_⟩
                · have hf := hall w' hw'
                  go_simp
                  try go_bits
                  exact yieldsV_mk rfl
                simp only [Act.put, List.setIfInBounds_toArray, List.set_cons_zero, List.set_cons_succ]
                refine hreg_take (i := 12) rfl (by kernel_rfl) (by kernel_rfl) (by kernel_rfl) hreg_panic (by rfl) hHeld ?_
                apply Exists.intro
                refine ⟨fun w' hw' => ?_, ?_⟩
                · have hf := hall w' hw'
                  go_simp
                  try go_bits
                  exact yieldsV_mk rfl
                simp only [Act.put, List.setIfInBounds_toArray, List.set_cons_zero, List.set_cons_succ]
                refine hreg_take (i := 13) rfl (by kernel_rfl) (by kernel_rfl) (by kernel_rfl) hreg_panic (by rfl) hHeld ?_
                apply Exists.intro
                refine ⟨fun w' hw' => ?_, ?_⟩
                · have hf := hall w' hw'
                  go_simp
                  try go_bits
                  exact yieldsV_mk rfl
                simp only [Act.put, List.setIfInBounds_toArray, List.set_cons_zero, List.set_cons_succ]
                refine hreg_take (i := 14) rfl (by kernel_rfl) (by kernel_rfl) (by kernel_rfl) hreg_panic (by rfl) hHeld ?_
                apply Exists.intro
                refine ⟨fun w' hw' => ?_, ?_⟩
                · have hf := hall w' hw'
                  go_simp
                  try go_bits
                  exact yieldsV_mk rfl
                simp only [Act.put, List.setIfInBounds_toArray, List.set_cons_zero, List.set_cons_succ]
                refine hreg_take (i := 15) rfl (by kernel_rfl) (by kernel_rfl) (by kernel_rfl) hreg_panic (by rfl) hHeld ?_
                apply Exists.intro
                refine ⟨fun w' hw' => ?_, ?_⟩
                · have hf := hall w' hw'
                  go_simp
                  try go_bits
                  exact yieldsV_mk rfl
                simp only [Act.put, List.setIfInBounds_toArray, List.set_cons_zero, List.set_cons_succ]
                refine hreg_take (i := 16) rfl (by kernel_rfl) (by kernel_rfl) (by kernel_rfl) hreg_panic (by rfl) hHeld ?_
                apply Exists.intro
                refine ⟨fun w' hw' => ?_, ?_⟩
                · have hf := hall w' hw'
                  go_simp
                  try go_bits
                  exact yieldsV_mk rfl
                simp only [Act.put, List.setIfInBounds_toArray, List.set_cons_zero, List.set_cons_succ]
                refine hreg_take (i := 17) rfl (by kernel_rfl) (by kernel_rfl) (by kernel_rfl) hreg_panic (by rfl) hHeld ?_
                apply Exists.intro
                refine ⟨fun w' hw' => ?_, ?_⟩
                · have hf := hall w' hw'
                  go_simp
                  try go_bits
                  exact yieldsV_mk rfl
                simp only [Act.put, List.setIfInBounds_toArray, List.set_cons_zero, List.set_cons_succ]
                refine hreg_take (i := 18) rfl (by kernel_rfl) (by kernel_rfl) (by kernel_rfl) hreg_panic (by rfl) hHeld ?_
                apply Exists.intro
                refine ⟨fun w' hw' => ?_, ?_⟩
                · have hf := hall w' hw'
                  go_simp
                  try go_bits
                  exact yieldsV_mk rfl
                simp only [Act.put, List.setIfInBounds_toArray, List.set_cons_zero, List.set_cons_succ]
                refine hreg_take (i := 19) rfl (by kernel_rfl) (by kernel_rfl) (by kernel_rfl) hreg_panic (by rfl) hHeld ?_
                apply Exists.intro
                refine ⟨fun w' hw' => ?_, ?_⟩
                · have hf := hall w' hw'
                  go_simp
                  try go_bits
                  exact yieldsV_mk rfl
                simp only [Act.put, List.setIfInBounds_toArray, List.set_cons_zero, List.set_cons_succ]
                refine hreg_take (i := 20) rfl (by kernel_rfl) (by kernel_rfl) (by kernel_rfl) hreg_panic (by rfl) hHeld ?_
                apply Exists.intro
                refine ⟨fun w' hw' => ?_, ?_⟩
                · have hf := hall w' hw'
                  go_simp
                  try go_bits
                  exact yieldsV_mk rfl
                simp only [Act.put, List.setIfInBounds_toArray, List.set_cons_zero, List.set_cons_succ]
                refine hreg_take (i := 21) rfl (by kernel_rfl) (by kernel_rfl) (by kernel_rfl) hreg_panic (by rfl) hHeld ?_
                apply Exists.intro
                refine ⟨fun w' hw' => ?_, ?_⟩
                · have hf := hall w' hw'
                  go_simp
                  try go_bits
                  exact yieldsV_mk rfl
                simp only [Act.put, List.setIfInBounds_toArray, List.set_cons_zero, List.set_cons_succ]
                refine hreg_take (i := 22) rfl (by kernel_rfl) (by kernel_rfl) (by kernel_rfl) hreg_panic (by rfl) hHeld ?_
                apply Exists.intro
                refine ⟨fun w' hw' => ?_, ?_⟩
                · have hf := hall w' hw'
                  go_simp
                  try go_bits
                  exact yieldsV_mk rfl
                simp only [Act.put, List.setIfInBounds_toArray, List.set_cons_zero, List.set_cons_succ]
                refine wpAnyH_ready (rs := [1]) (by kernel_rfl) (by simp) ?_
                refine hreg_event (o := _) rfl (by rfl) (fun K hK => ?_) ?_
                · go_simp
                  first
                    | (go_at_call 28; refine (refRot_any r.a 2 _ (by omega) (by omega)).mono ?_; rintro e v4 ⟨rfl, hbb⟩)
                    | skip
                  refine hK.out _ _ ?_ (fun hHeld' => ?_)
                  · first
                      | exact hHeld.next hbb
                      | exact hHeld.next hb
                      | exact hHeld
                      | exact hHeld.alloc _
                      | exact hHeld.setCell (by simp <;> omega) _
                      | exact (hHeld.alloc _).alloc _
                  replace hHeld := hHeld'
                  clear hHeld' hK K
                  simp only [Act.put, List.setIfInBounds_toArray, List.set_cons_zero, List.set_cons_succ]
                  refine wpAnyH_ready (rs := [3]) (by kernel_rfl) (by simp) ?_
                  refine hreg_event (o := _) rfl (by rfl) (fun K hK => ?_) ?_
                  · go_simp
                    first
                      | (go_at_call 28; refine (refRot_any r.a 13 _ (by omega) (by omega)).mono ?_; rintro e v5 ⟨rfl, hbb⟩)
                      | skip
                    refine hK.out _ _ ?_ (fun hHeld' => ?_)
                    · first
                        | exact hHeld.next hbb
                        | exact hHeld.next hb
                        | exact hHeld
                        | exact hHeld.alloc _
                        | exact hHeld.setCell (by simp <;> omega) _
                        | exact (hHeld.alloc _).alloc _
                    replace hHeld := hHeld'
                    clear hHeld' hK K
                    simp only [Act.put, List.setIfInBounds_toArray, List.set_cons_zero, List.set_cons_succ]
                    refine hreg_take (i := 4) rfl (by kernel_rfl) (by kernel_rfl) (by kernel_rfl) hreg_panic (by rfl) hHeld ?_
                    apply Exists.intro
                    refine ⟨fun w' hw' => ?_, ?_⟩
                    · have hf := hall w' hw'
                      go_simp
                      try go_bits
                      exact yieldsV_mk rfl
                    simp only [Act.put, List.setIfInBounds_toArray, List.set_cons_zero, List.set_cons_succ]
                    refine wpAnyH_ready (rs := [6]) (by kernel_rfl) (by simp) ?_
                    refine hreg_event (o := _) rfl (by rfl) (fun K hK => ?_) ?_
                    · go_simp
                      first
                        | (go_at_call 28; refine (refRot_any r.a 22 _ (by omega) (by omega)).mono ?_; rintro e v6 ⟨rfl, hbb⟩)
                        | skip
                      refine hK.out _ _ ?_ (fun hHeld' => ?_)
                      · first
                          | exact hHeld.next hbb
                          | exact hHeld.next hb
                          | exact hHeld
                          | exact hHeld.alloc _
                          | exact hHeld.setCell (by simp <;> omega) _
                          | exact (hHeld.alloc _).alloc _
                      replace hHeld := hHeld'
                      clear hHeld' hK K
                      simp only [Act.put, List.setIfInBounds_toArray, List.set_cons_zero, List.set_cons_succ]
                      refine hreg_take (i := 7) rfl (by kernel_rfl) (by kernel_rfl) (by kernel_rfl) hreg_panic (by rfl) hHeld ?_
                      apply Exists.intro
                      refine ⟨fun w' hw' => ?_, ?_⟩
                      · have hf := hall w' hw'
                        go_simp
                        try go_bits
                        exact yieldsV_mk rfl
                      simp only [Act.put, List.setIfInBounds_toArray, List.set_cons_zero, List.set_cons_succ]
                      refine hreg_take (i := 23) rfl (by kernel_rfl) (by kernel_rfl) (by kernel_rfl) hreg_panic (by rfl) hHeld ?_
                      apply Exists.intro
                      refine ⟨fun w' hw' => ?_, ?_⟩
                      · have hf := hall w' hw'
                        go_simp
                        try go_bits
                        exact yieldsV_mk rfl
                      simp only [Act.put, List.setIfInBounds_toArray, List.set_cons_zero, List.set_cons_succ]
                      refine hreg_take (i := 24) rfl (by kernel_rfl) (by kernel_rfl) (by kernel_rfl) hreg_panic (by rfl) hHeld ?_
                      apply Exists.intro
                      refine ⟨fun w' hw' => ?_, ?_⟩
                      · have hf := hall w' hw'
                        go_simp
                        try go_bits
                        exact yieldsV_mk rfl
                      simp only [Act.put, List.setIfInBounds_toArray, List.set_cons_zero, List.set_cons_succ]
                      refine wpAnyH_done (by kernel_rfl) ?_ _
                      refine NoPanic.normal ?_
                      rw [maj_eq]
                      obtain ⟨u, hu⟩ : ∃ u, (rotr r.a 2 ^^^ rotr r.a 13 ^^^ rotr r.a 22) + majW r.a r.b r.c = u := ⟨_, rfl⟩
                      rw [hu]
                      rw [hu] at hst'
                      replace hu := Box.mk hu
                      obtain ⟨f1, f2, f3, f4, f5, f6, f7⟩ := hall _ hHeld
                      have q0 := (hHeld.out.cell (p := ⟨vb, 0, none⟩) hvlr).trans d0
                      have q3 := (hHeld.out.cell (p := ⟨vb, 3, none⟩) hvlr).trans d3
                      have q4 := (hHeld.out.cell (p := ⟨vb, 4, none⟩) hvlr).trans d4
                      have hV6 := (hHeld.out.block vb hvlr).trans hV.out
                      have hpu : canPut v6 vb 0 8 = true := canPut_block hV6 0 8 (by simp [uC_length, St.toL_length])
                      have hB6 : Below vb wv v6 := hbr.out.trans (hHeld.out.mono (by omega))
                      have hcl : ([.int .u32 (iw (t + u)), .int .u32 (iw r.a), .int .u32 (iw r.b), .int .u32 (iw r.c), .int .u32 (iw (r.d + t)), .int .u32 (iw r.e), .int .u32 (iw r.f), .int .u32 (iw r.g)] : List Value) = uC (⟨t + u, r.a, r.b, r.c, r.d + t, r.e, r.f, r.g⟩ : St).toL := St.uC8 ⟨t + u, r.a, r.b, r.c, r.d + t, r.e, r.f, r.g⟩
                      have hV7 := heap_setCells_whole hV6 (cs := uC (⟨t + u, r.a, r.b, r.c, r.d + t, r.e, r.f, r.g⟩ : St).toL) (by rw [uC_length, uC_length]; rfl)
                      have hB7 := below_setCells (Nat.le_refl vb) (uC (⟨t + u, r.a, r.b, r.c, r.d + t, r.e, r.f, r.g⟩ : St).toL) 0 _ _ hB6
                      clear hHeld hall hbb hP3 f1 f2 hV6
                      replace hV7 := Box.mk hV7
                      replace hB7 := Box.mk hB7
                      replace hB6 := Box.mk hB6
                      go_wp2_with fail
                      exact ⟨⟨hB7.out, j + 1, by omega, by go_num, by rw [hstep.out, hst'.out]; exact hV7.out⟩, by simp [intOf]; omega⟩
                    exact AllReadyH.nil
                  exact AllReadyH.nil
                exact AllReadyH.nil
              exact AllReadyH.nil
            exact AllReadyH.nil
          exact AllReadyH.nil
        · obtain rfl : j = 64 := by omega
          have hge : ¬ ((64 : Nat) : Int) < 64 := by omega
          obtain rfl : r = r64 := by rw [← hr, hr64]
          have hX0 := (hbr.block hb hHl).trans hHv.out
          have hR0 := Box.mk ((hbr.block rb hRl).trans hRv.out)
          have hBq := Box.mk (hBv.out.trans (hbr.mono (by omega)))
          rw [← mixL_zero s r] at hX0
          clear hbr hHv hRv hBv hKv hGv
          replace hr := Box.mk hr
          replace hr64 := Box.mk hr64
          replace hV := Box.mk hV
          replace hX0 := Box.mk hX0
          obtain ⟨wq, hwq⟩ : ∃ wq, wr = wq := ⟨_, rfl⟩
          rw [hwq] at hV hX0 hR0 hBq hvlr ⊢
          replace hwq := Box.mk hwq
          have hrl : rb < wq.heap.size := by omega
          go_wp2_with fail
          go_loopw [18] (fun i wr => Oth hb wq wr ∧ ∃ j : Nat, j ≤ 8 ∧ i = .int .i64 j ∧ wr.heap[hb]? = some (.cells (uC (mixL s r j)).toArray 52 (0, 0))) (fun i _ => 8 - (intOf i).toNat)
          case atStart => exact ⟨Oth.refl _ _, 0, by omega, rfl, hX0.out⟩
          case round =>
            clear hX0
            obtain ⟨hbx, j, hj, rfl, hX⟩ := hrel
            have hVx := hbx.keep hV.out (by omega)
            by_cases hlt : j < 8
            · have hlt' : (j : Int) < 8 := by omega
              obtain ⟨x, hx⟩ : ∃ x, s.toL[j]? = some x := ⟨_, List.getElem?_eq_getElem (by rw [St.toL_length]; exact hlt)⟩
              obtain ⟨y, hy⟩ : ∃ x, r.toL[j]? = some x := ⟨_, List.getElem?_eq_getElem (by rw [St.toL_length]; exact hlt)⟩
              have hset := mixL_set s r j hlt
              rw [List.getD_eq_getElem?_getD, List.getD_eq_getElem?_getD, hx, hy] at hset
              have cX := uC_cell hX ((mixL_get s r j hlt).trans hx)
              have cV := uC_cell hVx hy
              have fX : wr.frozen? ⟨hb, j, none⟩ = false := frozen_of_row _ _ _ _ _ hX
              have hset2 := heap_setCell_uC hX j (x + y)
              rw [show (mixL s r j).set j (x + y) = mixL s r (j + 1) from hset] at hset2
              have hall : ∀ w' : World, True → True := fun _ _ => trivial
              replace hX := Box.mk hX
              replace hVx := Box.mk hVx
              replace hbx := Box.mk hbx
              replace hset := Box.mk hset
              replace hset2 := Box.mk hset2
              replace hx := Box.mk hx
              replace hy := Box.mk hy
              go_wp2_with fail
              refine hreg_begin (S := (fun _ => True)) (by kernel_rfl) True.intro (fun hHeld => ?_)
              simp only [List.length_cons, List.length_nil, Nat.zero_add, Nat.reduceAdd, Array.replicate]
              refine hreg_take (i := 0) rfl (by kernel_rfl) (by kernel_rfl) (by kernel_rfl) hreg_panic (by rfl) hHeld ?_
              apply Exists.intro
              refine ⟨fun w' hw' => ?_, ?_⟩
              · have hf := hall w' hw'
                go_simp
                try go_bits
                exact yieldsV_mk rfl
              simp only [Act.put, List.setIfInBounds_toArray, List.set_cons_zero, List.set_cons_succ]
              refine hreg_take (i := 1) rfl (by kernel_rfl) (by kernel_rfl) (by kernel_rfl) hreg_panic (by rfl) hHeld ?_
              apply Exists.intro
              refine ⟨fun w' hw' => ?_, ?_⟩
              · have hf := hall w' hw'
                go_simp
                try go_bits
                exact yieldsV_mk rfl
              simp only [Act.put, List.setIfInBounds_toArray, List.set_cons_zero, List.set_cons_succ]
              refine hreg_take (i := 2) rfl (by kernel_rfl) (by kernel_rfl) (by kernel_rfl) hreg_panic (by rfl) hHeld ?_
              apply Exists.intro
              refine ⟨fun w' hw' => ?_, ?_⟩
              · have hf := hall w' hw'
                go_simp
                try go_bits
                exact yieldsV_mk rfl
              simp only [Act.put, List.setIfInBounds_toArray, List.set_cons_zero, List.set_cons_succ]
              refine hreg_take (i := 4) rfl (by kernel_rfl) (by kernel_rfl) (by kernel_rfl) hreg_panic (by rfl) hHeld ?_
              apply Exists.intro
              refine ⟨fun w' hw' => ?_, ?_⟩
              · have hf := hall w' hw'
                go_simp
                try go_bits
                exact yieldsV_mk rfl
              simp only [Act.put, List.setIfInBounds_toArray, List.set_cons_zero, List.set_cons_succ]
              refine hreg_take (i := 5) rfl (by kernel_rfl) (by kernel_rfl) (by kernel_rfl) hreg_panic (by rfl) hHeld ?_
              apply Exists.intro
              refine ⟨fun w' hw' => ?_, ?_⟩
              · have hf := hall w' hw'
                go_simp
                try go_bits
                exact yieldsV_mk rfl
              simp only [Act.put, List.setIfInBounds_toArray, List.set_cons_zero, List.set_cons_succ]
              refine wpAnyH_ready (rs := [3, 6]) (by kernel_rfl) (by simp) ?_
              refine hreg_event (o := _) rfl (by rfl) (fun K hK => ?_) ?_
              · go_simp
                first
                  | skip
                refine hK.out _ _ ?_ (fun hHeld' => ?_)
                · first
                    | trivial
                    | exact hHeld.next hb
                    | exact hHeld
                    | exact hHeld.alloc _
                    | exact hHeld.setCell (by simp <;> omega) _
                    | exact (hHeld.alloc _).alloc _
                replace hHeld := hHeld'
                clear hHeld' hK K
                simp only [Act.put, List.setIfInBounds_toArray, List.set_cons_zero, List.set_cons_succ]
                refine wpAnyH_ready (rs := [6]) (by kernel_rfl) (by simp) ?_
                refine hreg_event (o := _) rfl (by rfl) (fun K hK => ?_) ?_
                · go_simp
                  first
                    | skip
                  refine hK.out _ _ ?_ (fun hHeld' => ?_)
                  · first
                      | trivial
                      | exact hHeld.next hb
                      | exact hHeld
                      | exact hHeld.alloc _
                      | exact hHeld.setCell (by simp <;> omega) _
                      | exact (hHeld.alloc _).alloc _
                  replace hHeld := hHeld'
                  clear hHeld' hK K
                  simp only [Act.put, List.setIfInBounds_toArray, List.set_cons_zero, List.set_cons_succ]
                  refine hreg_take (i := 7) rfl (by kernel_rfl) (by kernel_rfl) (by kernel_rfl) hreg_panic (by rfl) hHeld ?_
                  apply Exists.intro
                  refine ⟨fun w' hw' => ?_, ?_⟩
                  · have hf := hall w' hw'
                    go_simp
                    try go_bits
                    exact yieldsV_mk rfl
                  simp only [Act.put, List.setIfInBounds_toArray, List.set_cons_zero, List.set_cons_succ]
                  refine hreg_take (i := 8) rfl (by kernel_rfl) (by kernel_rfl) (by kernel_rfl) hreg_panic (by rfl) hHeld ?_
                  apply Exists.intro
                  refine ⟨fun w' hw' => ?_, ?_⟩
                  · have hf := hall w' hw'
                    go_simp
                    try go_bits
                    exact yieldsV_mk rfl
                  simp only [Act.put, List.setIfInBounds_toArray, List.set_cons_zero, List.set_cons_succ]
                  refine wpAnyH_ready (rs := [9]) (by kernel_rfl) (by simp) ?_
                  refine hreg_event (o := _) rfl (by rfl) (fun K hK => ?_) ?_
                  · go_simp
                    first
                      | skip
                    refine hK.out _ _ ?_ (fun hHeld' => ?_)
                    · first
                        | trivial
                        | exact hHeld.next hb
                        | exact hHeld
                        | exact hHeld.alloc _
                        | exact hHeld.setCell (by simp <;> omega) _
                        | exact (hHeld.alloc _).alloc _
                    replace hHeld := hHeld'
                    clear hHeld' hK K
                    simp only [Act.put, List.setIfInBounds_toArray, List.set_cons_zero, List.set_cons_succ]
                    refine wpAnyH_done (by kernel_rfl) ?_ _
                    refine NoPanic.normal ?_
                    have hoth : Oth hb wq (wr.setCell ⟨hb, j, none⟩ (.int .u32 (iw (x + y)))).drew := (hbx.out.setCell _ _).drew
                    replace hset2 : (wr.setCell ⟨hb, j, none⟩ (.int .u32 (iw (x + y)))).drew.heap[hb]? = _ := hset2.out
                    replace hset2 := Box.mk hset2
                    clear hall
                    generalize (wr.setCell ⟨hb, j, none⟩ (.int .u32 (iw (x + y)))).drew = wz at *
                    replace hoth := Box.mk hoth
                    go_wp2
                    go_roundw
                    case rel => exact ⟨hoth.out, j + 1, by omega, by go_num, hset2.out⟩
                    case measure => simp [intOf]; omega
                  exact AllReadyH.nil
                exact AllReadyH.nil
              refine hreg_event (o := _) rfl (by rfl) (fun K hK => ?_) ?_
              · go_simp
                first
                  | skip
                refine hK.out _ _ ?_ (fun hHeld' => ?_)
                · first
                    | trivial
                    | exact hHeld.next hb
                    | exact hHeld
                    | exact hHeld.alloc _
                    | exact hHeld.setCell (by simp <;> omega) _
                    | exact (hHeld.alloc _).alloc _
                replace hHeld := hHeld'
                clear hHeld' hK K
                simp only [Act.put, List.setIfInBounds_toArray, List.set_cons_zero, List.set_cons_succ]
                refine wpAnyH_ready (rs := [3]) (by kernel_rfl) (by simp) ?_
                refine hreg_event (o := _) rfl (by rfl) (fun K hK => ?_) ?_
                · go_simp
                  first
                    | skip
                  refine hK.out _ _ ?_ (fun hHeld' => ?_)
                  · first
                      | trivial
                      | exact hHeld.next hb
                      | exact hHeld
                      | exact hHeld.alloc _
                      | exact hHeld.setCell (by simp <;> omega) _
                      | exact (hHeld.alloc _).alloc _
                  replace hHeld := hHeld'
                  clear hHeld' hK K
                  simp only [Act.put, List.setIfInBounds_toArray, List.set_cons_zero, List.set_cons_succ]
                  refine hreg_take (i := 7) rfl (by kernel_rfl) (by kernel_rfl) (by kernel_rfl) hreg_panic (by rfl) hHeld ?_
                  apply Exists.intro
                  refine ⟨fun w' hw' => ?_, ?_⟩
                  · have hf := hall w' hw'
                    go_simp
                    try go_bits
                    exact yieldsV_mk rfl
                  simp only [Act.put, List.setIfInBounds_toArray, List.set_cons_zero, List.set_cons_succ]
                  refine hreg_take (i := 8) rfl (by kernel_rfl) (by kernel_rfl) (by kernel_rfl) hreg_panic (by rfl) hHeld ?_
                  apply Exists.intro
                  refine ⟨fun w' hw' => ?_, ?_⟩
                  · have hf := hall w' hw'
                    go_simp
                    try go_bits
                    exact yieldsV_mk rfl
                  simp only [Act.put, List.setIfInBounds_toArray, List.set_cons_zero, List.set_cons_succ]
                  refine wpAnyH_ready (rs := [9]) (by kernel_rfl) (by simp) ?_
                  refine hreg_event (o := _) rfl (by rfl) (fun K hK => ?_) ?_
                  · go_simp
                    first
                      | skip
                    refine hK.out _ _ ?_ (fun hHeld' => ?_)
                    · first
                        | trivial
                        | exact hHeld.next hb
                        | exact hHeld
                        | exact hHeld.alloc _
                        | exact hHeld.setCell (by simp <;> omega) _
                        | exact (hHeld.alloc _).alloc _
                    replace hHeld := hHeld'
                    clear hHeld' hK K
                    simp only [Act.put, List.setIfInBounds_toArray, List.set_cons_zero, List.set_cons_succ]
                    refine wpAnyH_done (by kernel_rfl) ?_ _
                    refine NoPanic.normal ?_
                    have hoth : Oth hb wq (wr.setCell ⟨hb, j, none⟩ (.int .u32 (iw (x + y)))).drew := (hbx.out.setCell _ _).drew
                    replace hset2 : (wr.setCell ⟨hb, j, none⟩ (.int .u32 (iw (x + y)))).drew.heap[hb]? = _ := hset2.out
                    replace hset2 := Box.mk hset2
                    clear hall
                    generalize (wr.setCell ⟨hb, j, none⟩ (.int .u32 (iw (x + y)))).drew = wz at *
                    replace hoth := Box.mk hoth
                    go_wp2
                    go_roundw
                    case rel => exact ⟨hoth.out, j + 1, by omega, by go_num, hset2.out⟩
                    case measure => simp [intOf]; omega
                  exact AllReadyH.nil
                exact AllReadyH.nil
              exact AllReadyH.nil
            · obtain rfl : j = 8 := by omega
              have hge8 : ¬ ((8 : Nat) : Int) < 8 := by omega
              have hrow : rowOf wr hb 0 8 = some (uC (mixL s r 8)) := uC_rowOf hX
              have hiR : isRow 8 (uC (mixL s r 8)) = true := uC_row (mixL s r 8)
              have hRx := hbx.keep hR0.out (by omega)
              have hpu : canPut wr rb 0 8 = true := canPut_block hRx 0 8 (by simp [uC_length])
              have hl8 : (uC (mixL s r 8)).length = 8 := by rw [uC_length]; rfl
              have hBx := Box.mk (hBq.out.trans (hbx.below (by omega) (Nat.le_refl hb)))
              replace hX := Box.mk hX
              replace hRx := Box.mk hRx
              replace hVx := Box.mk hVx
              replace hbx := Box.mk hbx
              generalize uC (mixL s r 8) = cs at *
              go_wp2_with fail
              have hrow2 := rowOf_of_rangeAt (World.rangeAt_setCells_same wr rb 0 cs (by rw [hl8]; exact canPut_there.1 hpu)) hl8
              refine bodyPost_ret (v := .agg cs.toArray) (res1 Try.results24 (res_u8w (b := rb) (o := 0) (by simp [go_sem]) hrow2)) rfl ?_
              exact gives rfl (by rw [hhb.out]; exact below_setCells (by omega) _ _ _ _ hBx.out)

end Go.Proofs.Ytabikhmaiennpaa
