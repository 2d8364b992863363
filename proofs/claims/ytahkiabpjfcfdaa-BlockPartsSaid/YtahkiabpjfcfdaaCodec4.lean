/- The contracts of package codec: Key, Bytes. -/
import Derived.Test.YtahkiabpjfcfdaaCodec3
import Derived.Test.YtahkiabpjfcfdaaBase
namespace Go.Proofs.Ytahkiabpjfcfdaa
set_option maxRecDepth 100000
open Go.RowKit
set_option linter.unusedVariables false
set_option linter.unusedSimpArgs false
attribute [local irreducible] Int.lt Int.le
attribute [local go_sem ↓] load_key store_key alloc_key build0_key
attribute [local go_sem] rowOf_drew rowOf_alloc_old rowOf_alloc_new canPut_drew canPut_alloc_old canPut_alloc_new setCells_alloc_new

theorem keyC_bC (k : Key) : keyC k = bC k.val := by unfold keyC bC; rfl

theorem bytes_any (k : Key) (W : World) : Calls Try.prog 45 #[.agg (keyC k).toArray] W (Gives (.string (sB k.val)) W) := by
  go_enter Try.func45, Try.ntmps45
  go_wp2_with fail
  rw [keyC_bC, run_string_of _ _ _ k.val 38 32 k.2.symm (heap_alloc_new W _)]
  go_wp2
  go_ret
  exact gives rfl ((Below.refl _ _).alloc (Nat.le_refl _) _)

/-- '[]byte(s)'. -/
theorem conv_bytes (w : World) (l : List UInt8) (hl : l.length ≤ 1000000000) : ∃ g cap w', (convert 9 22 (.string (sB l))).run Try.prog w = .ok (.slice (some ⟨g, 0, none⟩) l.length cap) w' ∧ Below w.heap.size w w' ∧ w.heap.size ≤ g ∧ g < w'.heap.size ∧ rowOf w' g 0 l.length = some (bC l) ∧ l.length ≤ cap := by
  have h := run_bytes_of_string (P := Try.prog) w 9 22 5 (sB l) Try.underlying9 Try.underlying22 Try.underlying5
  rw [sB_size] at h
  have hge := grownCap_ge w l.length 0 5
  refine ⟨_, _, _, h, ((Below.refl _ _).drew).alloc (Nat.le_refl _) _, Nat.le_refl _, ?_, ?_, hge⟩
  · rw [World.size_alloc]; exact Nat.lt_succ_self _
  have hb : (w.drew.alloc (.cells (bytesRow (sB l) (grownCap w l.length 0 5)) 5 ((bytesRow (sB l) (grownCap w l.length 0 5)).size, (bytesRow (sB l) (grownCap w l.length 0 5)).size + 1))).heap[w.heap.size]? = some (.cells (bytesRow (sB l) (grownCap w l.length 0 5)) 5 ((bytesRow (sB l) (grownCap w l.length 0 5)).size, (bytesRow (sB l) (grownCap w l.length 0 5)).size + 1)) := heap_alloc_new w.drew _
  rw [rowOf_block hb 0 l.length (by simp [bytesRow, sB])]
  congr 1
  unfold bytesRow bC sB
  simp [Array.extract_append]
  rw [List.take_of_length_le (by simp)]
  rfl

/-- What holds in Key's last region. -/
structure KeyS (b : Nat) (w8 w : World) : Prop where
  since : SinceB b w8 w
  put : canPut w b 0 32 = true
  lt : b < w.heap.size
theorem KeyS.next {b : Nat} {w8 w w' : World} (h : KeyS b w8 w) (hb : Below w.heap.size w w') : KeyS b w8 w' := ⟨h.since.next hb, by rw [canPut_congr (hb.block _ h.lt)]; exact h.put, Nat.lt_of_lt_of_le h.lt hb.size⟩
theorem setCells_size (b : Nat) : ∀ (cs : List Value) (o : Nat) (w : World), (w.setCells b o cs).heap.size = w.heap.size
  | [], o, w => rfl
  | v :: cs, o, w => by
    show ((w.setCell ⟨b, o, none⟩ v).setCells b (o + 1) cs).heap.size = _
    rw [setCells_size b cs]
    simp [World.setCell]
theorem below_setCells {B b : Nat} (hB : B ≤ b) : ∀ (cs : List Value) (o : Nat) (W w : World), Below B W w → Below B W (w.setCells b o cs)
  | [], o, W, w, h => h
  | v :: cs, o, W, w, h => below_setCells hB cs (o + 1) W _ (Below.setCell h hB v)

/-- The key that bytes begin by. -/
def keyOf (s : List UInt8) (h : 32 ≤ s.length) : Key := ⟨s.take 32, by rw [List.length_take]; omega⟩
def keyV (s : List UInt8) : Key × List UInt8 × Int := if h : 32 ≤ s.length then (keyOf s h, s.drop 32, 0) else (zeroKey, [], 30)
def valK (r : Key × List UInt8 × Int) : Value := .tuple #[.agg (keyC r.1).toArray, .string (sB r.2.1), .int .i64 r.2.2]

theorem key_any (s : List UInt8) (W : World) (hs : s.length ≤ 1000000000) : Calls Try.prog 54 #[.string (sB s)] W (Gives (valK (keyV s)) W) := by
  have hsz := sB_size s
  go_enter Try.func54, Try.ntmps54
  by_cases h32 : (s.length : Int) < 32
  · have hV : keyV s = (zeroKey, [], 30) := by unfold keyV; rw [dif_neg (by omega)]
    rw [hV]
    clear hV
    go_wp2
    refine bodyPost_ret (v := valK (zeroKey, [], 30)) (res3 Try.results54 (res_key (b := W.heap.size) (o := 0) (by simp [go_sem]) (by simp [go_sem])) (v2 := .string (sB [])) (by simp [oneRes]; try rfl) (by simp [oneRes]; try rfl)) rfl ?_
    exact gives rfl ((Below.refl _ _).alloc (Nat.le_refl _) _)
  · have h32' : 32 ≤ s.length := by omega
    have hV : keyV s = (keyOf s h32', s.drop 32, 0) := by unfold keyV; rw [dif_pos h32']
    rw [hV]
    clear hV
    obtain ⟨k, hk⟩ : ∃ k, k = keyOf s h32' := ⟨_, rfl⟩
    rw [← hk]
    have hkv : k.val = s.take 32 := by rw [hk]; rfl
    replace hk := Box.mk hk
    obtain ⟨t32, ht⟩ : ∃ t, t = s.take 32 := ⟨_, rfl⟩
    obtain ⟨r, hr⟩ : ∃ r, r = s.drop 32 := ⟨_, rfl⟩
    have hl32 : t32.length = 32 := by rw [ht, List.length_take]; omega
    have hx : (sB s).extract 0 32 = sB t32 := by rw [sB_extract, ht, List.drop_zero]
    have hx2 : (sB s).extract 32 s.length = sB r := by rw [sB_extract, hr, List.take_length]
    rw [← hr]
    rw [← ht] at hkv
    replace hkv := Box.mk hkv
    clear ht hr
    have hb0 : Below W.heap.size W (W.alloc (.cells (keyC zeroKey).toArray 38)) := (Below.refl _ _).alloc (Nat.le_refl _) _
    have hp0 : canPut (W.alloc (.cells (keyC zeroKey).toArray 38)) W.heap.size 0 32 = true := by simp [go_sem]
    go_wp2_with fail
    obtain ⟨w8, hw8⟩ : ∃ w8, w8 = W.alloc (.cells (keyC zeroKey).toArray 38) := ⟨_, rfl⟩
    have hlt8 : W.heap.size < w8.heap.size := by rw [hw8]; simp
    rw [← hw8] at hb0 hp0 ⊢
    replace hw8 := Box.mk hw8
    have hall : ∀ w', KeyS W.heap.size w8 w' → W.heap.size < w'.heap.size := fun w' h => h.lt
    refine hreg_begin (S := KeyS W.heap.size w8) (by kernel_rfl) ⟨(SinceB.refl (by omega)).drew, by rw [canPut_drew]; exact hp0, hlt8⟩ (fun hHeld => ?_)
    simp only [List.length_cons, List.length_nil, Nat.zero_add, Nat.reduceAdd, Array.replicate]
    refine hreg_take (i := 0) rfl (by kernel_rfl) (by kernel_rfl) (by kernel_rfl) hreg_panic (by rfl) hHeld ?_
    apply Exists.intro
    refine ⟨fun w' hw' => ?_, ?_⟩
    · have hf := hall w' hw'
      go_simp
      try go_bits
      exact yieldsV_mk rfl
    simp only [Act.put, List.setIfInBounds_toArray, List.set_cons_zero, List.set_cons_succ]
    refine hreg_take (i := 1) rfl (by kernel_rfl) (by kernel_rfl) (by kernel_rfl) hreg_panic (by rfl) hHeld ?_
    apply Exists.intro
    refine ⟨fun w' hw' => ?_, ?_⟩
    · have hf := hall w' hw'
      go_simp
      try go_bits
      exact yieldsV_mk rfl
    simp only [Act.put, List.setIfInBounds_toArray, List.set_cons_zero, List.set_cons_succ]
    refine hreg_take (i := 5) rfl (by kernel_rfl) (by kernel_rfl) (by kernel_rfl) hreg_panic (by rfl) hHeld ?_
    apply Exists.intro
    refine ⟨fun w' hw' => ?_, ?_⟩
    · have hf := hall w' hw'
      go_simp
      try go_bits
      exact yieldsV_mk rfl
    simp only [Act.put, List.setIfInBounds_toArray, List.set_cons_zero, List.set_cons_succ]
    refine hreg_take (i := 6) rfl (by kernel_rfl) (by kernel_rfl) (by kernel_rfl) hreg_panic (by rfl) hHeld ?_
    apply Exists.intro
    refine ⟨fun w' hw' => ?_, ?_⟩
    · have hf := hall w' hw'
      go_simp
      try go_bits
      exact yieldsV_mk rfl
    simp only [Act.put, List.setIfInBounds_toArray, List.set_cons_zero, List.set_cons_succ]
    refine wpAnyH_ready (rs := [2]) (by kernel_rfl) (by simp) ?_
    refine hreg_event (o := _) rfl (by rfl) (fun K hK => ?_) ?_
    · go_simp
      first
        | (obtain ⟨g, cap, wc, hcv, hbc, hg0, hg1, hrc, hcc⟩ := conv_bytes _ t32 (by omega); rw [hcv]; rw [hl32] at hrc; rw [← hkv.out, ← keyC_bC] at hrc; go_simp)
        | (have hcp := hHeld.put; go_simp)
        | skip
      refine hK.out _ _ ?_ (fun hHeld' => ?_)
      · first
          | exact hHeld.next hbc
          | exact ⟨⟨below_setCells (Nat.le_refl _) _ _ _ _ hHeld.since.out, hHeld.since.le⟩, canPut_there.2 (World.there_setCells (canPut_there.1 hHeld.put) _ _ _), by rw [setCells_size]; exact hHeld.lt⟩
          | exact hHeld.next hb
          | exact hHeld
          | exact hHeld.alloc _
          | exact hHeld.setCell (by simp <;> omega) _
          | exact (hHeld.alloc _).alloc _
      replace hHeld := hHeld'
      clear hHeld' hK K
      simp only [Act.put, List.setIfInBounds_toArray, List.set_cons_zero, List.set_cons_succ]
      refine hreg_take (i := 3) rfl (by kernel_rfl) (by kernel_rfl) (by kernel_rfl) hreg_panic (by rfl) hHeld ?_
      apply Exists.intro
      refine ⟨fun w' hw' => ?_, ?_⟩
      · have hf := hall w' hw'
        go_simp
        try go_bits
        exact yieldsV_mk rfl
      simp only [Act.put, List.setIfInBounds_toArray, List.set_cons_zero, List.set_cons_succ]
      refine wpAnyH_ready (rs := [4]) (by kernel_rfl) (by simp) ?_
      refine hreg_event (o := _) rfl (by rfl) (fun K hK => ?_) ?_
      · go_simp
        first
          | (obtain ⟨g, cap, wc, hcv, hbc, hg0, hg1, hrc, hcc⟩ := conv_bytes _ t32 (by omega); rw [hcv]; rw [hl32] at hrc; rw [← hkv.out, ← keyC_bC] at hrc; go_simp)
          | (have hcp := hHeld.put; go_simp)
          | skip
        refine hK.out _ _ ?_ (fun hHeld' => ?_)
        · first
            | exact hHeld.next hbc
            | exact ⟨⟨below_setCells (Nat.le_refl _) _ _ _ _ hHeld.since.out, hHeld.since.le⟩, canPut_there.2 (World.there_setCells (canPut_there.1 hHeld.put) _ _ _), by rw [setCells_size]; exact hHeld.lt⟩
            | exact hHeld.next hb
            | exact hHeld
            | exact hHeld.alloc _
            | exact hHeld.setCell (by simp <;> omega) _
            | exact (hHeld.alloc _).alloc _
        replace hHeld := hHeld'
        clear hHeld' hK K
        simp only [Act.put, List.setIfInBounds_toArray, List.set_cons_zero, List.set_cons_succ]
        refine wpAnyH_ready (rs := [7]) (by kernel_rfl) (by simp) ?_
        refine hreg_event (o := _) rfl (by rfl) (fun K hK => ?_) ?_
        · go_simp
          first
            | (obtain ⟨g, cap, wc, hcv, hbc, hg0, hg1, hrc, hcc⟩ := conv_bytes _ t32 (by omega); rw [hcv]; rw [hl32] at hrc; rw [← hkv.out, ← keyC_bC] at hrc; go_simp)
            | (have hcp := hHeld.put; go_simp)
            | skip
          refine hK.out _ _ ?_ (fun hHeld' => ?_)
          · first
              | exact hHeld.next hbc
              | exact ⟨⟨below_setCells (Nat.le_refl _) _ _ _ _ hHeld.since.out, hHeld.since.le⟩, canPut_there.2 (World.there_setCells (canPut_there.1 hHeld.put) _ _ _), by rw [setCells_size]; exact hHeld.lt⟩
              | exact hHeld.next hb
              | exact hHeld
              | exact hHeld.alloc _
              | exact hHeld.setCell (by simp <;> omega) _
              | exact (hHeld.alloc _).alloc _
          replace hHeld := hHeld'
          clear hHeld' hK K
          simp only [Act.put, List.setIfInBounds_toArray, List.set_cons_zero, List.set_cons_succ]
          refine hreg_take (i := 8) rfl (by kernel_rfl) (by kernel_rfl) (by kernel_rfl) hreg_panic (by rfl) hHeld ?_
          apply Exists.intro
          refine ⟨fun w' hw' => ?_, ?_⟩
          · have hf := hall w' hw'
            go_simp
            try go_bits
            exact yieldsV_mk rfl
          simp only [Act.put, List.setIfInBounds_toArray, List.set_cons_zero, List.set_cons_succ]
          refine hreg_take (i := 9) rfl (by kernel_rfl) (by kernel_rfl) (by kernel_rfl) hreg_panic (by rfl) hHeld ?_
          apply Exists.intro
          refine ⟨fun w' hw' => ?_, ?_⟩
          · have hf := hall w' hw'
            go_simp
            try go_bits
            exact yieldsV_mk rfl
          simp only [Act.put, List.setIfInBounds_toArray, List.set_cons_zero, List.set_cons_succ]
          refine wpAnyH_done (by kernel_rfl) ?_ _
          refine NoPanic.normal ?_
          have hrow := rowOf_of_rangeAt (World.rangeAt_setCells_same wc W.heap.size 0 (keyC k) (by rw [keyC_length]; exact canPut_there.1 hcp)) (keyC_length k)
          obtain ⟨wf, hwf⟩ : ∃ wf, wf = wc.setCells W.heap.size 0 (keyC k) := ⟨_, rfl⟩
          rw [← hwf] at hrow hHeld ⊢
          replace hwf := Box.mk hwf
          go_wp2
          refine bodyPost_ret (v := valK (k, r, 0)) (res3 Try.results54 (res_key (b := W.heap.size) (o := 0) (by simp [go_sem]) hrow) (v2 := .string (sB r)) (by simp [oneRes]; try rfl) (by simp [oneRes]; try rfl)) rfl ?_
          exact gives rfl (hb0.trans hHeld.since.out)
        exact AllReadyH.nil
      exact AllReadyH.nil
    exact AllReadyH.nil

end Go.Proofs.Ytahkiabpjfcfdaa
