/- Package sha: a block. -/
import Derived.Test.YtabikhmaiennpaaSha4
namespace Go.Proofs.Ytabikhmaiennpaa
open Go.RowKit
set_option linter.unusedVariables false
set_option linter.unusedSimpArgs false
set_option maxRecDepth 100000

theorem stOf_toL {h : List UInt32} (hh : h.length = 8) : h = (stOf h).toL := by
  match h, hh with
  | [a, b, c, d, e, f, g, z], _ => rfl
theorem St.toL_length (s : St) : s.toL.length = 8 := rfl
/-- The state's row behind i words of the sum. -/
def mixL (s r : St) (i : Nat) : List UInt32 := (List.zipWith (· + ·) s.toL r.toL).take i ++ s.toL.drop i
theorem mixL_zero (s r : St) : mixL s r 0 = s.toL := rfl
theorem mixL_all (s r : St) : mixL s r 8 = List.zipWith (· + ·) s.toL r.toL := rfl
theorem mixL_get (s r : St) : ∀ i, i < 8 → (mixL s r i)[i]? = s.toL[i]? := by
  intro i hi
  match i, hi with
  | 0, _ => rfl
  | 1, _ => rfl
  | 2, _ => rfl
  | 3, _ => rfl
  | 4, _ => rfl
  | 5, _ => rfl
  | 6, _ => rfl
  | 7, _ => rfl
theorem mixL_set (s r : St) : ∀ i, i < 8 → (mixL s r i).set i (s.toL.getD i 0 + r.toL.getD i 0) = mixL s r (i + 1) := by
  intro i hi
  match i, hi with
  | 0, _ => rfl
  | 1, _ => rfl
  | 2, _ => rfl
  | 3, _ => rfl
  | 4, _ => rfl
  | 5, _ => rfl
  | 6, _ => rfl
  | 7, _ => rfl
theorem St.uC8 (s : St) : [Value.int .u32 (iw s.a), .int .u32 (iw s.b), .int .u32 (iw s.c), .int .u32 (iw s.d), .int .u32 (iw s.e), .int .u32 (iw s.f), .int .u32 (iw s.g), .int .u32 (iw s.z)] = uC s.toL := by
  unfold uC St.toL; rfl
theorem kL_length : kL.length = 64 := rfl
attribute [local irreducible] kL
attribute [local irreducible] Int.lt Int.le
attribute [local go_sem ↓] arr_u16 load_u16 store_u16 alloc_u16 ix_u8w
attribute [local go_sem] u_xor u_and u_or u_add u_add' rowOf_drew rowOf_alloc_old rowOf_alloc_new canPut_drew canPut_alloc_old canPut_alloc_new setCells_alloc_new

set_option maxHeartbeats 4000000 in
theorem block_any (s : St) (p : List UInt8) (hb kb : Nat) (W : World) (hp : p.length = 64) (hne : hb ≠ kb)
    (hH : W.heap[hb]? = some (.cells (uC s.toL).toArray 61 (0, 0))) (hK : W.heap[kb]? = some (.cells (uC kL).toArray 55 (0, 0))) :
    Calls Try.prog 31 #[.pointer (some ⟨hb, 0, none⟩), .pointer (some ⟨kb, 0, none⟩), .string (sB p)] W
      (fun e w' => e = .returned (.tuple #[]) ∧ w'.heap[hb]? = some (.cells (uC (comp s.toL (wordsL p))).toArray 61 (0, 0)) ∧ Oth hb W w') := by
  have hm : (wordsL p).length = 16 := by rw [wordsL_length, hp]
  obtain ⟨m, hmm⟩ : ∃ m, wordsL p = m := ⟨_, rfl⟩
  replace hp' := Box.mk hp
  go_enter Try.func31, Try.ntmps31
  go_wp2_with fail
  have hwd := words_any p W (by omega)
  rw [hp, show 64 / 4 = 16 from rfl, hmm] at hwd
  refine hwd.mono ?_
  clear hwd
  rintro e w1 ⟨rfl, hr1, hb1⟩
  rw [hmm] at hm
  replace hmm := Box.mk hmm
  have hro := uC_rowOf hr1
  have hrw := uC_row m
  rw [hm] at hro hrw
  have hwl : W.heap.size < w1.heap.size := (Array.getElem?_eq_some_iff.1 hr1).1
  have hbl : hb < W.heap.size := (Array.getElem?_eq_some_iff.1 hH).1
  have hkl : kb < W.heap.size := (Array.getElem?_eq_some_iff.1 hK).1
  replace hH := Box.mk hH
  replace hK := Box.mk hK
  replace hr1 := Box.mk hr1
  go_wp2_with fail
  have hB2 : Below W.heap.size W (w1.alloc (.cells (uC m).toArray 75)) := hb1.alloc (by omega) _
  have hM2 := heap_alloc_new w1 (.cells (uC m).toArray 75)
  have hwl2 : W.heap.size ≤ w1.heap.size := by omega
  generalize w1.alloc (.cells (uC m).toArray 75) = w2 at *
  generalize w1.heap.size = wb at *
  have hH2 := (hB2.block hb hbl).trans hH.out
  have hK2 := (hB2.block kb hkl).trans hK.out
  clear hro hrw hr1 hwl hb1
  have d0 := uC_cell hH2 (i := 0) (x := s.a) rfl
  have d1 := uC_cell hH2 (i := 1) (x := s.b) rfl
  have d2 := uC_cell hH2 (i := 2) (x := s.c) rfl
  have d3 := uC_cell hH2 (i := 3) (x := s.d) rfl
  have d4 := uC_cell hH2 (i := 4) (x := s.e) rfl
  have d5 := uC_cell hH2 (i := 5) (x := s.f) rfl
  have d6 := uC_cell hH2 (i := 6) (x := s.g) rfl
  have d7 := uC_cell hH2 (i := 7) (x := s.z) rfl
  have hl2 : hb < w2.heap.size := (Array.getElem?_eq_some_iff.1 hH2).1
  have hl2' : wb < w2.heap.size := (Array.getElem?_eq_some_iff.1 hM2).1
  replace hH2 := Box.mk hH2
  replace hK2 := Box.mk hK2
  replace hM2 := Box.mk hM2
  replace hB2 := Box.mk hB2
  go_wp2_with fail
  (refine region_since (by kernel_rfl) (by kernel_rfl) ?_)
  repeat (first
    | (refine wpQuiet_goff rfl rfl rfl rfl ?_; simp only [Act.put, List.setIfInBounds_toArray, List.set_cons_succ, List.set_cons_zero])
    | (first
         | refine wpQuiet_free rfl ?_
         | refine wpQuiet_gon rfl rfl rfl rfl ?_
       apply Exists.intro
       refine ⟨fun w' hw' => ?_, ?_⟩
       · (obtain ⟨hc', hr', hs'⟩ := since_facts hw'
          unfold Oper.quietAt
          go_simp
          try go_bits
          first
            | exact quietUpon_value rfl
            | exact rfl
            | (apply quietUpon_enter
               first
               | fail))
       simp only [Act.put, List.setIfInBounds_toArray, List.set_cons_succ, List.set_cons_zero]))
  first
    | refine wpQuiet_nil ?_
    | fail "QUIET stopped"
  intro wq hwq'
  clear d0 d1 d2 d3 d4 d5 d6 d7 hl2
  replace hM2 := (hwq'.block wb hl2').trans hM2.out
  replace hwq' := hB2.out.trans (hwq'.mono (by have := hB2.out.size; omega))
  clear hB2 hH2 hK2 hl2'
  go_wp2_with fail
  obtain ⟨hr0, hc0⟩ : runW m s 0 = s ∧ cW m 0 = m := ⟨rfl, cW_low hm 0 (by omega)⟩
  rw [← hc0] at hM2
  have hv0 : ∀ (t : St) (e : t = s), (Value.int .u32 (iw s.a) = .int .u32 (iw t.a)) := fun _ e => by rw [e]
  go_loopw [8, 9, 10, 11, 12, 13, 14, 15, 58] (fun va vb vc vd ve vf vg vz i wr => Below W.heap.size W wr ∧ ∃ j : Nat, j ≤ 64 ∧ i = .int .i64 j ∧ wr.heap[wb]? = some (.cells (uC (cW m j)).toArray 75 (0, 0)) ∧ ∃ r : St, runW m s j = r ∧ va = .int .u32 (iw r.a) ∧ vb = .int .u32 (iw r.b) ∧ vc = .int .u32 (iw r.c) ∧ vd = .int .u32 (iw r.d) ∧ ve = .int .u32 (iw r.e) ∧ vf = .int .u32 (iw r.f) ∧ vg = .int .u32 (iw r.g) ∧ vz = .int .u32 (iw r.z)) (fun _ _ _ _ _ _ _ _ i _ => 64 - (intOf i).toNat)
  case atStart => exact ⟨hwq', 0, by omega, rfl, hM2, s, rfl, rfl, rfl, rfl, rfl, rfl, rfl, rfl, rfl⟩
  case round =>
    obtain ⟨hbr, j, hj, rfl, hC, r, hrr, rfl, rfl, rfl, rfl, rfl, rfl, rfl, rfl⟩ := hrel
    by_cases hlt : j < 64
    · have hlt' : (j : Int) < 64 := by omega
      obtain ⟨kw, hkw⟩ : ∃ x, kL[j]? = some x := ⟨_, List.getElem?_eq_getElem (by rw [kL_length]; exact hlt)⟩
      have cK := uC_cell ((hbr.block kb hkl).trans hK.out) hkw
      have hstep : runW m s (j + 1) = rnd r kw (Wd m j) := by rw [runW, hrr, List.getD_eq_getElem?_getD, hkw]; rfl
      have hnext : ∀ (w : World), w.heap[wb]? = some (.cells (uC (cW m j)).toArray 75 (0, 0)) → _ := fun w h => next_any m hm j wb w hlt h
      generalize Wd m j = xn at *
      have hwr : W.heap.size ≤ wr.heap.size := hbr.size
      have hall : ∀ w', SinceB W.heap.size wr w' → w'.cell? ⟨kb, j, none⟩ = some (.int .u32 (iw kw)) := fun w' h => h.cell hkl cK
      replace hnext := Box.mk hnext
      replace hstep := Box.mk hstep
      replace hkw := Box.mk hkw
      replace hrr := Box.mk hrr
      replace hC := Box.mk hC
      replace cK := Box.mk cK
      replace hM2 := Box.mk hM2
      replace hbr := Box.mk hbr
      go_wp2_with fail
      refine hreg_begin (S := SinceB W.heap.size wr) (by kernel_rfl) (SinceB.refl (by omega)).drew (fun hHeld => ?_)
      simp only [List.length_cons, List.length_nil, Nat.zero_add, Nat.reduceAdd, Array.replicate]
      refine hreg_take (i := 0) rfl (by kernel_rfl) (by kernel_rfl) (by kernel_rfl) hreg_panic (by rfl) hHeld ?_
      apply Exists.intro
      refine ⟨fun w' hw' => ?_, ?_⟩
      · have hf := hall w' hw'
        go_simp
        try go_bits
        exact yieldsV_mk rfl
      simp only [Act.put, List.setIfInBounds_toArray, List.set_cons_zero, List.set_cons_succ]
      refine hreg_take (i := 1) rfl (by kernel_rfl) (by kernel_rfl) (by kernel_rfl) hreg_panic (by rfl) hHeld ?_
      apply Exists.intro
      refine ⟨fun w' hw' => ?_, ?_⟩
      · have hf := hall w' hw'
        go_simp
        try go_bits
        exact yieldsV_mk rfl
      simp only [Act.put, List.setIfInBounds_toArray, List.set_cons_zero, List.set_cons_succ]
      refine hreg_take (i := 3) rfl (by kernel_rfl) (by kernel_rfl) (by kernel_rfl) hreg_panic (by rfl) hHeld ?_
      apply Exists.intro
      refine ⟨fun w' hw' => ?_, ?_⟩
      · have hf := hall w' hw'
        go_simp
        try go_bits
        exact yieldsV_mk rfl
      simp only [Act.put, List.setIfInBounds_toArray, List.set_cons_zero, List.set_cons_succ]
      refine hreg_take (i := 6) rfl (by kernel_rfl) (by kernel_rfl) (by kernel_rfl) hreg_panic (by rfl) hHeld ?_
      apply Exists.intro
      refine ⟨fun w' hw' => ?_, ?_⟩
      · have hf := hall w' hw'
        go_simp
        try go_bits
        exact yieldsV_mk rfl
      simp only [Act.put, List.setIfInBounds_toArray, List.set_cons_zero, List.set_cons_succ]
      refine hreg_take (i := 10) rfl (by kernel_rfl) (by kernel_rfl) (by kernel_rfl) hreg_panic (by rfl) hHeld ?_
      apply Exists.intro
      refine ⟨fun w' hw' => ?_, ?_⟩
      · have hf := hall w' hw'
        go_simp
        try go_bits
        exact yieldsV_mk rfl
      simp only [Act.put, List.setIfInBounds_toArray, List.set_cons_zero, List.set_cons_succ]
      refine hreg_take (i := 11) rfl (by kernel_rfl) (by kernel_rfl) (by kernel_rfl) hreg_panic (by rfl) hHeld ?_
      apply Exists.intro
      refine ⟨fun w' hw' => ?_, ?_⟩
      · have hf := hall w' hw'
        go_simp
        try go_bits
        exact yieldsV_mk rfl
      simp only [Act.put, List.setIfInBounds_toArray, List.set_cons_zero, List.set_cons_succ]
      refine hreg_take (i := 12) rfl (by kernel_rfl) (by kernel_rfl) (by kernel_rfl) hreg_panic (by rfl) hHeld ?_
      apply Exists.intro
      refine ⟨fun w' hw' => ?_, ?_⟩
      · have hf := hall w' hw'
        go_simp
        try go_bits
        exact yieldsV_mk rfl
      simp only [Act.put, List.setIfInBounds_toArray, List.set_cons_zero, List.set_cons_succ]
      refine hreg_take (i := 13) rfl (by kernel_rfl) (by kernel_rfl) (by kernel_rfl) hreg_panic (by rfl) hHeld ?_
      apply Exists.intro
      refine ⟨fun w' hw' => ?_, ?_⟩
      · have hf := hall w' hw'
        go_simp
        try go_bits
        exact yieldsV_mk rfl
      simp only [Act.put, List.setIfInBounds_toArray, List.set_cons_zero, List.set_cons_succ]
      refine hreg_take (i := 14) rfl (by kernel_rfl) (by kernel_rfl) (by kernel_rfl) hreg_panic (by rfl) hHeld ?_
      apply Exists.intro
      refine ⟨fun w' hw' => ?_, ?_⟩
      · have hf := hall w' hw'
        go_simp
        try go_bits
        exact yieldsV_mk rfl
      simp only [Act.put, List.setIfInBounds_toArray, List.set_cons_zero, List.set_cons_succ]
      refine hreg_take (i := 15) rfl (by kernel_rfl) (by kernel_rfl) (by kernel_rfl) hreg_panic (by rfl) hHeld ?_
      apply Exists.intro
      refine ⟨fun w' hw' => ?_, ?_⟩
      · have hf := hall w' hw'
        go_simp
        try go_bits
        exact yieldsV_mk rfl
      simp only [Act.put, List.setIfInBounds_toArray, List.set_cons_zero, List.set_cons_succ]
      refine hreg_take (i := 16) rfl (by kernel_rfl) (by kernel_rfl) (by kernel_rfl) hreg_panic (by rfl) hHeld ?_
      apply Exists.intro
      refine ⟨fun w' hw' => ?_, ?_⟩
      · have hf := hall w' hw'
        go_simp
        try go_bits
        exact yieldsV_mk rfl
      simp only [Act.put, List.setIfInBounds_toArray, List.set_cons_zero, List.set_cons_succ]
      refine hreg_take (i := 18) rfl (by kernel_rfl) (by kernel_rfl) (by kernel_rfl) hreg_panic (by rfl) hHeld ?_
      apply Exists.intro
      refine ⟨fun w' hw' => ?_, ?_⟩
      · have hf := hall w' hw'
        go_simp
        try go_bits
        exact yieldsV_mk rfl
      simp only [Act.put, List.setIfInBounds_toArray, List.set_cons_zero, List.set_cons_succ]
      refine hreg_take (i := 19) rfl (by kernel_rfl) (by kernel_rfl) (by kernel_rfl) hreg_panic (by rfl) hHeld ?_
      apply Exists.intro
      refine ⟨fun w' hw' => ?_, ?_⟩
      · have hf := hall w' hw'
        go_simp
        try go_bits
        exact yieldsV_mk rfl
      simp only [Act.put, List.setIfInBounds_toArray, List.set_cons_zero, List.set_cons_succ]
      refine hreg_take (i := 20) rfl (by kernel_rfl) (by kernel_rfl) (by kernel_rfl) hreg_panic (by rfl) hHeld ?_
      apply Exists.intro
      refine ⟨fun w' hw' => ?_, ?_⟩
      · have hf := hall w' hw'
        go_simp
        try go_bits
        exact yieldsV_mk rfl
      simp only [Act.put, List.setIfInBounds_toArray, List.set_cons_zero, List.set_cons_succ]
      refine hreg_take (i := 21) rfl (by kernel_rfl) (by kernel_rfl) (by kernel_rfl) hreg_panic (by rfl) hHeld ?_
      apply Exists.intro
      refine ⟨fun w' hw' => ?_, ?_⟩
      · have hf := hall w' hw'
        go_simp
        try go_bits
        exact yieldsV_mk rfl
      simp only [Act.put, List.setIfInBounds_toArray, List.set_cons_zero, List.set_cons_succ]
      refine hreg_take (i := 22) rfl (by kernel_rfl) (by kernel_rfl) (by kernel_rfl) hreg_panic (by rfl) hHeld ?_
      apply Exists.intro
      refine ⟨fun w' hw' => ?_, ?_⟩
      · have hf := hall w' hw'
        go_simp
        try go_bits
        exact yieldsV_mk rfl
      simp only [Act.put, List.setIfInBounds_toArray, List.set_cons_zero, List.set_cons_succ]
      refine hreg_take (i := 24) rfl (by kernel_rfl) (by kernel_rfl) (by kernel_rfl) hreg_panic (by rfl) hHeld ?_
      apply Exists.intro
      refine ⟨fun w' hw' => ?_, ?_⟩
      · have hf := hall w' hw'
        go_simp
        try go_bits
        exact yieldsV_mk rfl
      simp only [Act.put, List.setIfInBounds_toArray, List.set_cons_zero, List.set_cons_succ]
      refine hreg_take (i := 25) rfl (by kernel_rfl) (by kernel_rfl) (by kernel_rfl) hreg_panic (by rfl) hHeld ?_
      apply Exists.intro
      refine ⟨fun w' hw' => ?_, ?_⟩
      · have hf := hall w' hw'
        go_simp
        try go_bits
        exact yieldsV_mk rfl
      simp only [Act.put, List.setIfInBounds_toArray, List.set_cons_zero, List.set_cons_succ]
      refine wpAnyH_ready (rs := [2]) (by kernel_rfl) (by simp) ?_
      refine hreg_event (o := _) rfl (by rfl) (fun K hK => ?_) ?_
      · go_simp
        first
          | (go_at_call 38; refine (turn_any r.e 6 _ (by omega) (by omega)).mono ?_; rintro e v1 ⟨rfl, hb1⟩)
          | skip
        refine hK.out _ _ ?_ (fun hHeld' => ?_)
        · first
            | exact hHeld.next hb1
            | exact hHeld.next hb
            | exact hHeld
            | exact hHeld.alloc _
            | exact hHeld.setCell (by simp <;> omega) _
            | exact (hHeld.alloc _).alloc _
        replace hHeld := hHeld'
        clear hHeld' hK K
        simp only [Act.put, List.setIfInBounds_toArray, List.set_cons_zero, List.set_cons_succ]
        refine wpAnyH_ready (rs := [4]) (by kernel_rfl) (by simp) ?_
        refine hreg_event (o := _) rfl (by rfl) (fun K hK => ?_) ?_
        · go_simp
          first
            | (go_at_call 38; refine (turn_any r.e 11 _ (by omega) (by omega)).mono ?_; rintro e v2 ⟨rfl, hb2⟩)
            | skip
          refine hK.out _ _ ?_ (fun hHeld' => ?_)
          · first
              | exact hHeld.next hb2
              | exact hHeld.next hb
              | exact hHeld
              | exact hHeld.alloc _
              | exact hHeld.setCell (by simp <;> omega) _
              | exact (hHeld.alloc _).alloc _
          replace hHeld := hHeld'
          clear hHeld' hK K
          simp only [Act.put, List.setIfInBounds_toArray, List.set_cons_zero, List.set_cons_succ]
          refine hreg_take (i := 5) rfl (by kernel_rfl) (by kernel_rfl) (by kernel_rfl) hreg_panic (by rfl) hHeld ?_
          apply Exists.intro
          refine ⟨fun w' hw' => ?_, ?_⟩
          · have hf := hall w' hw'
            go_simp
            try go_bits
            exact yieldsV_mk rfl
          simp only [Act.put, List.setIfInBounds_toArray, List.set_cons_zero, List.set_cons_succ]
          refine wpAnyH_ready (rs := [7]) (by kernel_rfl) (by simp) ?_
          refine hreg_event (o := _) rfl (by rfl) (fun K hK => ?_) ?_
          · go_simp
            first
              | (go_at_call 38; refine (turn_any r.e 25 _ (by omega) (by omega)).mono ?_; rintro e v3 ⟨rfl, hb3⟩)
              | skip
            refine hK.out _ _ ?_ (fun hHeld' => ?_)
            · first
                | exact hHeld.next hb3
                | exact hHeld.next hb
                | exact hHeld
                | exact hHeld.alloc _
                | exact hHeld.setCell (by simp <;> omega) _
                | exact (hHeld.alloc _).alloc _
            replace hHeld := hHeld'
            clear hHeld' hK K
            simp only [Act.put, List.setIfInBounds_toArray, List.set_cons_zero, List.set_cons_succ]
            refine hreg_take (i := 8) rfl (by kernel_rfl) (by kernel_rfl) (by kernel_rfl) hreg_panic (by rfl) hHeld ?_
            apply Exists.intro
            refine ⟨fun w' hw' => ?_, ?_⟩
            · have hf := hall w' hw'
              go_simp
              try go_bits
              exact yieldsV_mk rfl
            simp only [Act.put, List.setIfInBounds_toArray, List.set_cons_zero, List.set_cons_succ]
            refine hreg_take (i := 9) rfl (by kernel_rfl) (by kernel_rfl) (by kernel_rfl) hreg_panic (by rfl) hHeld ?_
            apply Exists.intro
            refine ⟨fun w' hw' => ?_, ?_⟩
            · have hf := hall w' hw'
              go_simp
              try go_bits
              exact yieldsV_mk rfl
            simp only [Act.put, List.setIfInBounds_toArray, List.set_cons_zero, List.set_cons_succ]
            refine hreg_take (i := 17) rfl (by kernel_rfl) (by kernel_rfl) (by kernel_rfl) hreg_panic (by rfl) hHeld ?_
            apply Exists.intro
            refine ⟨fun w' hw' => ?_, ?_⟩
            · have hf := hall w' hw'
              go_simp
              try go_bits
              exact yieldsV_mk rfl
            simp only [Act.put, List.setIfInBounds_toArray, List.set_cons_zero, List.set_cons_succ]
            refine hreg_take (i := 23) rfl (by kernel_rfl) (by kernel_rfl) (by kernel_rfl) hreg_panic (by rfl) hHeld ?_
            apply Exists.intro
            refine ⟨fun w' hw' => ?_, ?_⟩
            · have hf := hall w' hw'
              go_simp
              try go_bits
              exact yieldsV_mk rfl
            simp only [Act.put, List.setIfInBounds_toArray, List.set_cons_zero, List.set_cons_succ]
            refine wpAnyH_ready (rs := [26]) (by kernel_rfl) (by simp) ?_
            refine hreg_event (o := _) rfl (by rfl) (fun K hK => ?_) ?_
            · go_simp
              first
                | (go_at_call 37; refine (hnext.out v3 (keepBlock hb3 (keepBlock hb2 (keepBlock hb1 hC.out)))).mono ?_; rintro e v4 ⟨rfl, hN⟩)
                | skip
              refine hK.out _ _ ?_ (fun hHeld' => ?_)
              · first
                  | exact ⟨hHeld.out.trans (hN.oth.below (by have := hHeld.out.size; omega) hwl2), hHeld.le⟩
                  | exact hHeld.next hb
                  | exact hHeld
                  | exact hHeld.alloc _
                  | exact hHeld.setCell (by simp <;> omega) _
                  | exact (hHeld.alloc _).alloc _
              replace hHeld := hHeld'
              clear hHeld' hK K
              simp only [Act.put, List.setIfInBounds_toArray, List.set_cons_zero, List.set_cons_succ]
              refine hreg_take (i := 27) rfl (by kernel_rfl) (by kernel_rfl) (by kernel_rfl) hreg_panic (by rfl) hHeld ?_
              apply Exists.intro
              refine ⟨fun w' hw' => ?_, ?_⟩
              · have hf := hall w' hw'
                go_simp
                try go_bits
                exact yieldsV_mk rfl
              simp only [Act.put, List.setIfInBounds_toArray, List.set_cons_zero, List.set_cons_succ]
              refine hreg_take (i := 28) rfl (by kernel_rfl) (by kernel_rfl) (by kernel_rfl) hreg_panic (by rfl) hHeld ?_
              apply Exists.intro
              refine ⟨fun w' hw' => ?_, ?_⟩
              · have hf := hall w' hw'
                go_simp
                try go_bits
                exact yieldsV_mk rfl
              simp only [Act.put, List.setIfInBounds_toArray, List.set_cons_zero, List.set_cons_succ]
              refine wpAnyH_done (by kernel_rfl) ?_ _
              refine NoPanic.normal ?_
              have hst' : Box (rnd r kw xn = ⟨(r.z + (rotr r.e 6 ^^^ rotr r.e 11 ^^^ rotr r.e 25) + (r.g ^^^ r.e &&& (r.f ^^^ r.g)) + kw + xn) + ((rotr r.a 2 ^^^ rotr r.a 13 ^^^ rotr r.a 22) + (r.a &&& r.b ||| r.c &&& (r.a ||| r.b))), r.a, r.b, r.c, r.d + (r.z + (rotr r.e 6 ^^^ rotr r.e 11 ^^^ rotr r.e 25) + (r.g ^^^ r.e &&& (r.f ^^^ r.g)) + kw + xn), r.e, r.f, r.g⟩) := Box.mk rfl
              generalize r.z + (rotr r.e 6 ^^^ rotr r.e 11 ^^^ rotr r.e 25) + (r.g ^^^ r.e &&& (r.f ^^^ r.g)) + kw + xn = t at *
              have hb4 : Below W.heap.size wr v4 := hHeld.out
              have hC4 := hN.row
              clear hHeld hall hb1 hb2 hb3 hN
              go_wp2_with fail
              refine (turn_any r.a 2 v4 (by omega) (by omega)).mono ?_
              rintro e v5 ⟨rfl, hb5⟩
              go_wp2_with fail
              refine (turn_any r.a 13 v5 (by omega) (by omega)).mono ?_
              rintro e v6 ⟨rfl, hb6⟩
              go_wp2_with fail
              refine (turn_any r.a 22 v6 (by omega) (by omega)).mono ?_
              rintro e v7 ⟨rfl, hb7⟩
              have hC7 := Box.mk (keepBlock hb7 (keepBlock hb6 (keepBlock hb5 hC4)))
              have hb8 : Below W.heap.size W v7 := hbr.out.trans (((((⟨hb4, hwr⟩ : SinceB W.heap.size wr v4).next hb5).next hb6).next hb7).out)
              clear hC4 hb4 hb5 hb6 hb7 hbr hC hnext
              replace hb8 := Box.mk hb8
              go_wp2
              go_roundw
              case rel => exact ⟨hb8.out, j + 1, by omega, by go_num, hC7.out, _, hstep.out.trans hst'.out, rfl, rfl, rfl, rfl, rfl, rfl, rfl, rfl⟩
              case measure => simp [intOf]; omega
            exact AllReadyH.nil
          exact AllReadyH.nil
        exact AllReadyH.nil
      exact AllReadyH.nil
    · obtain rfl : j = 64 := by omega
      have hge : ¬ ((64 : Nat) : Int) < 64 := by omega
      have hHr := (hbr.block hb hbl).trans hH.out
      have hres : comp s.toL m = List.zipWith (· + ·) s.toL r.toL := by unfold comp; rw [← hrr]; rfl
      clear hM2 hC
      replace hbr := Oth.of (p := hb) hbr
      rw [← mixL_zero s r] at hHr
      replace hrr := Box.mk hrr
      replace hres := Box.mk hres
      replace hHr := Box.mk hHr
      replace hbr := Box.mk hbr
      go_wp2_with fail
      go_loopw [129] (fun i wr => Oth hb W wr ∧ ∃ j : Nat, j ≤ 8 ∧ i = .int .i64 j ∧ wr.heap[hb]? = some (.cells (uC (mixL s r j)).toArray 61 (0, 0))) (fun i _ => 8 - (intOf i).toNat)
      case atStart => exact ⟨hbr.out, 0, by omega, rfl, hHr.out⟩
      case round =>
        obtain ⟨hbx, j, hj, rfl, hX⟩ := hrel
        by_cases hlt : j < 8
        · have hlt' : (j : Int) < 8 := by omega
          obtain ⟨x, hx⟩ : ∃ x, s.toL[j]? = some x := ⟨_, List.getElem?_eq_getElem (by rw [St.toL_length]; exact hlt)⟩
          obtain ⟨y, hy⟩ : ∃ x, r.toL[j]? = some x := ⟨_, List.getElem?_eq_getElem (by rw [St.toL_length]; exact hlt)⟩
          have hset := mixL_set s r j hlt
          rw [List.getD_eq_getElem?_getD, List.getD_eq_getElem?_getD, hx, hy] at hset
          have cX := uC_cell hX ((mixL_get s r j hlt).trans hx)
          have fX : wr.frozen? ⟨hb, j, none⟩ = false := frozen_of_row _ _ _ _ _ hX
          have hix : ∀ w, ixTo Try.prog 52 8 w (.agg #[.int .u32 (iw r.a), .int .u32 (iw r.b), .int .u32 (iw r.c), .int .u32 (iw r.d), .int .u32 (iw r.e), .int .u32 (iw r.f), .int .u32 (iw r.g), .int .u32 (iw r.z)]) (.int .i64 j) = .ok (.value (.int .u32 (iw y))) w := fun w => ixTo_ok _ _ _ w _ hlt' (by rw [St.uC8]; exact uC_get hy)
          have hset2 := heap_setCell_uC hX j (x + y)
          rw [show (mixL s r j).set j (x + y) = mixL s r (j + 1) from hset] at hset2
          have hl8 : hb < wr.heap.size := (Array.getElem?_eq_some_iff.1 hX).1
          have hall : ∀ w' : World, True → True := fun _ _ => trivial
          replace hX := Box.mk hX
          replace hbx := Box.mk hbx
          replace hset := Box.mk hset
          replace hset2 := Box.mk hset2
          replace hx := Box.mk hx
          replace hy := Box.mk hy
          replace hix := Box.mk hix
          clear hl8
          go_wp2_with fail
          rw [hix.out]
          go_wp2_with fail
          refine hreg_begin (S := (fun _ => True)) (by kernel_rfl) True.intro (fun hHeld => ?_)
          simp only [List.length_cons, List.length_nil, Nat.zero_add, Nat.reduceAdd, Array.replicate]
          refine hreg_take (i := 0) rfl (by kernel_rfl) (by kernel_rfl) (by kernel_rfl) hreg_panic (by rfl) hHeld ?_
          apply Exists.intro
          refine ⟨fun w' hw' => ?_, ?_⟩
          · have hf := hall w' hw'
            go_simp
            try go_bits
            exact yieldsV_mk rfl
          simp only [Act.put, List.setIfInBounds_toArray, List.set_cons_zero, List.set_cons_succ]
          refine hreg_take (i := 1) rfl (by kernel_rfl) (by kernel_rfl) (by kernel_rfl) hreg_panic (by rfl) hHeld ?_
          apply Exists.intro
          refine ⟨fun w' hw' => ?_, ?_⟩
          · have hf := hall w' hw'
            go_simp
            try go_bits
            exact yieldsV_mk rfl
          simp only [Act.put, List.setIfInBounds_toArray, List.set_cons_zero, List.set_cons_succ]
          refine hreg_take (i := 2) rfl (by kernel_rfl) (by kernel_rfl) (by kernel_rfl) hreg_panic (by rfl) hHeld ?_
          apply Exists.intro
          refine ⟨fun w' hw' => ?_, ?_⟩
          · have hf := hall w' hw'
            go_simp
            try go_bits
            exact yieldsV_mk rfl
          simp only [Act.put, List.setIfInBounds_toArray, List.set_cons_zero, List.set_cons_succ]
          refine hreg_take (i := 3) rfl (by kernel_rfl) (by kernel_rfl) (by kernel_rfl) hreg_panic (by rfl) hHeld ?_
          apply Exists.intro
          refine ⟨fun w' hw' => ?_, ?_⟩
          · have hf := hall w' hw'
            go_simp
            try go_bits
            exact yieldsV_mk rfl
          simp only [Act.put, List.setIfInBounds_toArray, List.set_cons_zero, List.set_cons_succ]
          refine hreg_take (i := 5) rfl (by kernel_rfl) (by kernel_rfl) (by kernel_rfl) hreg_panic (by rfl) hHeld ?_
          apply Exists.intro
          refine ⟨fun w' hw' => ?_, ?_⟩
          · have hf := hall w' hw'
            go_simp
            try go_bits
            exact yieldsV_mk rfl
          simp only [Act.put, List.setIfInBounds_toArray, List.set_cons_zero, List.set_cons_succ]
          refine hreg_take (i := 7) rfl (by kernel_rfl) (by kernel_rfl) (by kernel_rfl) hreg_panic (by rfl) hHeld ?_
          apply Exists.intro
          refine ⟨fun w' hw' => ?_, ?_⟩
          · have hf := hall w' hw'
            go_simp
            try go_bits
            exact yieldsV_mk rfl
          simp only [Act.put, List.setIfInBounds_toArray, List.set_cons_zero, List.set_cons_succ]
          refine wpAnyH_ready (rs := [4]) (by kernel_rfl) (by simp) ?_
          refine hreg_event (o := _) rfl (by rfl) (fun K hK => ?_) ?_
          · go_simp
            first
              | skip
            refine hK.out _ _ ?_ (fun hHeld' => ?_)
            · first
                | trivial
                | exact hHeld.next hb
                | exact hHeld
                | exact hHeld.alloc _
                | exact hHeld.setCell (by simp <;> omega) _
                | exact (hHeld.alloc _).alloc _
            replace hHeld := hHeld'
            clear hHeld' hK K
            simp only [Act.put, List.setIfInBounds_toArray, List.set_cons_zero, List.set_cons_succ]
            refine hreg_take (i := 6) rfl (by kernel_rfl) (by kernel_rfl) (by kernel_rfl) hreg_panic (by rfl) hHeld ?_
            apply Exists.intro
            refine ⟨fun w' hw' => ?_, ?_⟩
            · have hf := hall w' hw'
              go_simp
              try go_bits
              exact yieldsV_mk rfl
            simp only [Act.put, List.setIfInBounds_toArray, List.set_cons_zero, List.set_cons_succ]
            refine hreg_take (i := 8) rfl (by kernel_rfl) (by kernel_rfl) (by kernel_rfl) hreg_panic (by rfl) hHeld ?_
            apply Exists.intro
            refine ⟨fun w' hw' => ?_, ?_⟩
            · have hf := hall w' hw'
              go_simp
              try go_bits
              exact yieldsV_mk rfl
            simp only [Act.put, List.setIfInBounds_toArray, List.set_cons_zero, List.set_cons_succ]
            refine wpAnyH_ready (rs := [9]) (by kernel_rfl) (by simp) ?_
            refine hreg_event (o := _) rfl (by rfl) (fun K hK => ?_) ?_
            · go_simp
              first
                | skip
              refine hK.out _ _ ?_ (fun hHeld' => ?_)
              · first
                  | trivial
                  | exact hHeld.next hb
                  | exact hHeld
                  | exact hHeld.alloc _
                  | exact hHeld.setCell (by simp <;> omega) _
                  | exact (hHeld.alloc _).alloc _
              replace hHeld := hHeld'
              clear hHeld' hK K
              simp only [Act.put, List.setIfInBounds_toArray, List.set_cons_zero, List.set_cons_succ]
              refine wpAnyH_done (by kernel_rfl) ?_ _
              refine NoPanic.normal ?_
              have hoth : Oth hb W (wr.setCell ⟨hb, j, none⟩ (.int .u32 (iw (x + y)))).drew := (hbx.out.setCell _ _).drew
              replace hset2 : (wr.setCell ⟨hb, j, none⟩ (.int .u32 (iw (x + y)))).drew.heap[hb]? = _ := hset2.out
              replace hset2 := Box.mk hset2
              clear hall
              generalize (wr.setCell ⟨hb, j, none⟩ (.int .u32 (iw (x + y)))).drew = wz at *
              replace hoth := Box.mk hoth
              go_wp2
              go_roundw
              case rel => exact ⟨hoth.out, j + 1, by omega, by go_num, hset2.out⟩
              case measure => simp [intOf]; omega
            exact AllReadyH.nil
          exact AllReadyH.nil
        · obtain rfl : j = 8 := by omega
          have hge8 : ¬ ((8 : Nat) : Int) < 8 := by omega
          rw [mixL_all] at hX
          replace hX := Box.mk hX
          replace hbx := Box.mk hbx
          go_wp2
          go_end0
          exact ⟨rfl, by rw [hmm.out, hres.out]; exact hX.out, hbx.out⟩

end Go.Proofs.Ytabikhmaiennpaa
