/- Layer 8: the laws' walks. -/
import Derived.Test.YtpgaibihfplhcaaAnchor3
import Derived.Test.YtpgaibihfplhcaaLawEnd
import Derived.Test.YtpgaibihfplhcaaHeld
import Derived.Test.YtpgaibihfplhcaaHReg
namespace Go.Proofs.Ytpgaibihfplhcaa
open Go.RowKit
set_option linter.unusedVariables false
set_option linter.unusedSimpArgs false
attribute [local go_sem ↓] load_key store_key alloc_key build0_key one_key make_key copy_key append_key eq_key build1_key build2_key
attribute [local go_sem] rowOf_drew rowOf_alloc_old rowOf_alloc_new canPut_drew canPut_alloc_old canPut_alloc_new setCells_alloc_new

theorem noKeys (w : World) : KS w none 0 0 [] := ⟨rfl, Nat.le_refl _, by decide, fun _ => rfl, fun h => absurd rfl h⟩

theorem anchorEmpty_walk (k : Key) (W : World) : Calls Try.prog 12 #[.agg (keyC k).toArray] W (LawEnd W) := by
  go_enter Try.func12, Try.ntmps12
  go_wp2_with fail
  have S0 := ((Held.start W 32).row (keyC k) 23 (keyC_length k)).cell (.slice none 0 0) 27
  refine (last_n none 0 0 [] _ (noKeys _) (by omega)).mono ?_
  rintro e w1 ⟨rfl, hb1⟩
  try clear hcells hrows
  replace S0 := Held.to S0 hb1
  have hcells := Held.cells S0
  have hrows := Held.rows S0
  simp only [CF, RF, World.size_alloc] at hcells hrows
  have hlk : lastK [] = zeroKey := rfl
  rw [hlk]
  go_wp2_with fail
  replace S0 := S0.row (keyC zeroKey) 23 (keyC_length _)
  refine (back_n none 0 0 [] _ (noKeys _) (by omega)).mono ?_
  rintro e w2 ⟨a2, n2, c2, rfl, hk2, hb2, hf2, hn2, -, -⟩
  try clear hcells hrows
  replace S0 := Held.to S0 hb2
  have hcells := Held.cells S0
  have hrows := Held.rows S0
  simp only [CF, RF, World.size_alloc] at hcells hrows
  have hbe : backE [] = 166 := rfl
  rw [hbe]
  replace hn2 := Lib.hid hn2
  go_wp2_with fail
  replace S0 := S0.cell (.slice a2 n2 c2) 27
  refine (put_n none 0 0 [] k _ (noKeys _) (by omega)).mono ?_
  rintro e w3 ⟨a3, n3, c3, rfl, hk3, hb3, hf3, hn3, -, -⟩
  have hp : putL [] k = [k] := rfl
  rw [hp] at hk3 hn3
  try clear hcells hrows
  replace S0 := Held.to S0 hb3
  have hcells := Held.cells S0
  have hrows := Held.rows S0
  simp only [CF, RF, World.size_alloc] at hcells hrows
  replace hn3 := Lib.hid hn3
  go_wp2_with fail
  replace S0 := S0.cell (.slice a3 n3 c3) 27
  refine (last_n a3 n3 c3 [k] _ (SL.alloc hk3 _) (by rw [hn3.out]; simp)).mono ?_
  rintro e w4 ⟨rfl, hb4⟩
  have hk4 := SL.below (SL.alloc hk3 _) hb4
  try clear hcells hrows
  replace S0 := Held.to S0 hb4
  have hcells := Held.cells S0
  have hrows := Held.rows S0
  simp only [CF, RF, World.size_alloc] at hcells hrows
  have hlk' : lastK [k] = k := rfl
  rw [hlk']
  go_wp2_with fail
  replace S0 := S0.row (keyC k) 23 (keyC_length _)
  refine (has_n none 0 0 [] k _ (noKeys _) (by omega)).mono ?_
  rintro e w5 ⟨rfl, hb5⟩
  have hk5 := SL.below (SL.alloc hk4 _) hb5
  try clear hcells hrows
  replace S0 := Held.to S0 hb5
  have hcells := Held.cells S0
  have hrows := Held.rows S0
  simp only [CF, RF, World.size_alloc] at hcells hrows
  have hh1 : hasB [] k = false := rfl
  rw [hh1]
  have hh2 : hasB [k] k = true := by simp [hasB, lastN, anyK]
  go_wp2_with fail
  refine (has_n a3 n3 c3 [k] k _ hk5 (by rw [hn3.out]; simp)).mono ?_
  rintro e w6 ⟨rfl, hb6⟩
  try clear hcells hrows
  replace S0 := Held.to S0 hb6
  have hcells := Held.cells S0
  have hrows := Held.rows S0
  simp only [CF, RF, World.size_alloc] at hcells hrows
  rw [hh2]
  go_wp2_with fail
  refine (shown08 _).mono ?_
  rintro e w7 ⟨rfl, hb7⟩
  try clear hcells hrows
  replace S0 := Held.to S0 hb7
  have hcells := Held.cells S0
  have hrows := Held.rows S0
  simp only [CF, RF, World.size_alloc] at hcells hrows
  go_wp2
  go_ret
  exact gives_bool rfl S0.below

theorem new_one (w : World) (k : Key) (t : TypeId) : KS (w.alloc (.cells (keyC k).toArray t)) (some ⟨w.heap.size, 0, none⟩) 1 1 [k] := by
  rw [← rows_one keyC k]
  exact SL.new keyC_length _ [k] _ _ rfl (by unfold maxLen; simp)
theorem same_same_n (a b : Option Addr) (n m c d : Nat) (l : List Key) (w : World) (h : KS w a n c l) (h' : KS w b m d l) (hl : n ≤ 100000) :
    Calls Try.prog 32 #[.slice a n c, .slice b m d] w (Gives (.bool true) w) := by
  have := same_n a b n m c d l l w h h' hl
  rwa [beq_self_eq_true] at this
theorem putL_le (l : List Key) (k : Key) : (putL l k).length ≤ 8 := by unfold putL; rw [lastN_length]; omega
theorem backL_le (l : List Key) : (backL l).length ≤ l.length := by
  unfold backL
  split
  · exact Nat.zero_le _
  · rw [List.length_dropLast]; omega

set_option maxHeartbeats 1000000 in
theorem anchorTells_walk (a : Option Addr) (n c : Nat) (l : List Key) (k : Key) (W : World) (h : KS W a n c l) : Calls Try.prog 11 #[.slice a n c, .agg (keyC k).toArray] W (LawEnd W) := by
  have HN := Lib.hid h.1
  by_cases hn : 100 < n
  · clear h
    go_enter Try.func11, Try.ntmps11
    go_wp2_with fail
    refine (shown08 _).mono ?_
    rintro e w2 ⟨rfl, hb2⟩
    go_wp2
    go_ret
    exact gives_bool rfl (Below.of hb2 (by simp) ((Below.refl _ _).alloc (by simp) _))
  · have hcap := h.2.1
    go_enter Try.func11, Try.ntmps11
    go_wp2_with fail
    have S0 := ((Held.start W 32).row (keyC k) 23 (keyC_length k))
    refine (shown08 _).mono ?_
    rintro e w1 ⟨rfl, hb1⟩
    have hl1 := SL.below (SL.alloc h _) hb1
    try clear hcells hrows
    replace S0 := Held.to S0 hb1
    have hcells := Held.cells S0
    have hrows := Held.rows S0
    simp only [CF, RF, World.size_alloc] at hcells hrows
    go_wp2_with fail
    replace S0 := (S0.cell (.slice a n c) 27).cell (.slice a n c) 60
    refine (put_n a n c l k _ (SL.alloc (SL.alloc hl1 _) _) (by omega)).mono ?_
    rintro e w2 ⟨a2, n2, c2, rfl, hk2, hb2, hf2, hn2, -, -⟩
    have hl2 := SL.below (SL.alloc (SL.alloc hl1 _) _) hb2
    try clear hcells hrows
    replace S0 := Held.to S0 hb2
    have hcells := Held.cells S0
    have hrows := Held.rows S0
    simp only [CF, RF, World.size_alloc] at hcells hrows
    replace hn2 := Lib.hid hn2
    go_wp2_with fail
    replace S0 := S0.cell (.slice a2 n2 c2) 27
    refine (rput_n a n c l k _ (SL.alloc hl2 _) (by omega)).mono ?_
    rintro e w3 ⟨a3, n3, c3, rfl, hk3, hb3, hf3, hn3, -, -⟩
    have hl3 := SL.below (SL.alloc hl2 _) hb3
    replace hk2 := SL.below (SL.alloc hk2 _) hb3
    try clear hcells hrows
    replace S0 := Held.to S0 hb3
    have hcells := Held.cells S0
    have hrows := Held.rows S0
    simp only [CF, RF, World.size_alloc] at hcells hrows
    replace hn3 := Lib.hid hn3
    go_wp2_with fail
    replace S0 := S0.cell (.slice a3 n3 c3) 60
    refine (back_n a n c l _ (SL.alloc hl3 _) (by omega)).mono ?_
    rintro e w4 ⟨a4, n4, c4, rfl, hk4, hb4, hf4, hn4, -, -⟩
    have hl4 := SL.below (SL.alloc hl3 _) hb4
    replace hk2 := SL.below (SL.alloc hk2 _) hb4
    replace hk3 := SL.below (SL.alloc hk3 _) hb4
    try clear hcells hrows
    replace S0 := Held.to S0 hb4
    have hcells := Held.cells S0
    have hrows := Held.rows S0
    simp only [CF, RF, World.size_alloc] at hcells hrows
    replace hn4 := Lib.hid hn4
    go_wp2_with fail
    replace S0 := S0.cell (.slice a4 n4 c4) 27
    refine (rback_n a n c l _ (SL.alloc hl4 _) (by omega)).mono ?_
    rintro e w5 ⟨a5, n5, c5, rfl, hk5, hb5, hf5, hn5, -, -⟩
    have hl5 := SL.below (SL.alloc hl4 _) hb5
    replace hk2 := SL.below (SL.alloc hk2 _) hb5
    replace hk3 := SL.below (SL.alloc hk3 _) hb5
    replace hk4 := SL.below (SL.alloc hk4 _) hb5
    try clear hcells hrows
    replace S0 := Held.to S0 hb5
    have hcells := Held.cells S0
    have hrows := Held.rows S0
    simp only [CF, RF, World.size_alloc] at hcells hrows
    replace hn5 := Lib.hid hn5
    go_wp2_with fail
    replace S0 := S0.cell (.slice a5 n5 c5) 60
    refine (last_n a n c l _ (SL.alloc hl5 _) (by omega)).mono ?_
    rintro e w6 ⟨rfl, hb6⟩
    have hl6 := SL.below (SL.alloc hl5 _) hb6
    replace hk2 := SL.below (SL.alloc hk2 _) hb6
    replace hk3 := SL.below (SL.alloc hk3 _) hb6
    replace hk4 := SL.below (SL.alloc hk4 _) hb6
    replace hk5 := SL.below (SL.alloc hk5 _) hb6
    try clear hcells hrows
    replace S0 := Held.to S0 hb6
    have hcells := Held.cells S0
    have hrows := Held.rows S0
    simp only [CF, RF, World.size_alloc] at hcells hrows
    go_wp2_with fail
    replace S0 := S0.row (keyC (lastK l)) 23 (keyC_length _)
    refine (rlast_n a n c l _ (SL.alloc hl6 _) (by omega)).mono ?_
    rintro e w7 ⟨rfl, hb7⟩
    have hl7 := SL.below (SL.alloc hl6 _) hb7
    replace hk2 := SL.below (SL.alloc hk2 _) hb7
    replace hk3 := SL.below (SL.alloc hk3 _) hb7
    replace hk4 := SL.below (SL.alloc hk4 _) hb7
    replace hk5 := SL.below (SL.alloc hk5 _) hb7
    try clear hcells hrows
    replace S0 := Held.to S0 hb7
    have hcells := Held.cells S0
    have hrows := Held.rows S0
    simp only [CF, RF, World.size_alloc] at hcells hrows
    go_wp2_with fail
    have hcl := S0.cells
    have hrw := S0.rows
    simp only [CF, RF, World.size_alloc] at hcl hrw
    have S1 := S0.row (keyC (lastK l)) 23 (keyC_length _)
    obtain ⟨w8, hw8⟩ : ∃ w8, w8 = w7.alloc (.cells (keyC (lastK l)).toArray 23) := ⟨_, rfl⟩
    rw [← hw8] at S1 ⊢
    have hk2' := SL.alloc hk2 (.cells (keyC (lastK l)).toArray 23)
    have hk3' := SL.alloc hk3 (.cells (keyC (lastK l)).toArray 23)
    have hk4' := SL.alloc hk4 (.cells (keyC (lastK l)).toArray 23)
    have hk5' := SL.alloc hk5 (.cells (keyC (lastK l)).toArray 23)
    have hl8 := SL.alloc hl7 (.cells (keyC (lastK l)).toArray 23)
    rw [← hw8] at hk2' hk3' hk4' hk5' hl8
    replace hw8 := Lib.hid hw8
    have hall : ∀ w' : World, SinceP w8 w' → (CF w' [(w5.heap.size, .slice a5 n5 c5), (w4.heap.size, .slice a4 n4 c4), (w3.heap.size, .slice a3 n3 c3), (w2.heap.size, .slice a2 n2 c2), (w1.heap.size + 1, .slice a n c), (w1.heap.size, .slice a n c)] ∧ RF w' 32 [(w7.heap.size, keyC (lastK l)), (w6.heap.size, keyC (lastK l)), (W.heap.size, keyC k)]) := by
      intro w' hw'
      have S2 := S1.to hw'.out
      rw [World.size_alloc] at S2
      exact ⟨S2.cells, S2.rows⟩
    simp only [CF, RF] at hall
    have b2 : n2 ≤ 100000 := by have := hn2.out; have := putL_le l k; omega
    have b4 : n4 ≤ 100000 := by have := hn4.out; have := backL_le l; have := HN.out; omega
    have b0 : n ≤ 100000 := by omega
    have hS1 : ∀ w', SinceP w8 w' → Calls Try.prog 32 #[.slice a2 n2 c2, .slice a3 n3 c3] w' (Gives (.bool true) w') := fun w' h => same_same_n a2 a3 n2 n3 c2 c3 _ _ (SL.below hk2' h.out) (SL.below hk3' h.out) b2
    have hS2 : ∀ w', SinceP w8 w' → Calls Try.prog 32 #[.slice a4 n4 c4, .slice a5 n5 c5] w' (Gives (.bool true) w') := fun w' h => same_same_n a4 a5 n4 n5 c4 c5 _ _ (SL.below hk4' h.out) (SL.below hk5' h.out) b4
    have hS3 : ∀ w', SinceP w8 w' → Calls Try.prog 16 #[.agg #[.slice a n c], .agg (keyC k).toArray] w' (Gives (.bool (hasB l k)) w') := fun w' h => has_n a n c l k _ (SL.below hl8 h.out) (by omega)
    have hS4 : ∀ w', SinceP w8 w' → Calls Try.prog 33 #[.agg #[.slice a n c], .agg (keyC k).toArray] w' (Gives (.bool (hasB l k)) w') := fun w' h => rhas_n a n c l k _ (SL.below hl8 h.out) (by omega)
    clear hcl hrw hcells hrows hk2 hk3 hk4 hk5 hl7 hl6 hl5 hl4 hl3 hl2 hl1 hb1 hb2 hb3 hb4 hb5 hb6 hb7 hf2 hf3 hf4 hf5 hk2' hk3' hk4' hk5' hl8 h
    refine hreg_begin (S := SinceP w8) (by kernel_rfl) (SinceP.refl _).drew (fun hHeld => ?_)
    simp only [List.length_cons, List.length_nil, Nat.zero_add, Nat.reduceAdd, Array.replicate]
    refine hreg_take (i := 0) rfl (by kernel_rfl) (by kernel_rfl) (by kernel_rfl) hreg_panic (by rfl) hHeld ?_
    apply Exists.intro
    refine ⟨fun w' hw' => ?_, ?_⟩
    · have hf := hall w' hw'
      go_simp
      try go_bits
      exact yieldsV_mk rfl
    simp only [Act.put, List.setIfInBounds_toArray, List.set_cons_zero, List.set_cons_succ]
    refine hreg_take (i := 1) rfl (by kernel_rfl) (by kernel_rfl) (by kernel_rfl) hreg_panic (by rfl) hHeld ?_
    apply Exists.intro
    refine ⟨fun w' hw' => ?_, ?_⟩
    · have hf := hall w' hw'
      go_simp
      try go_bits
      exact yieldsV_mk rfl
    simp only [Act.put, List.setIfInBounds_toArray, List.set_cons_zero, List.set_cons_succ]
    refine hreg_take (i := 2) rfl (by kernel_rfl) (by kernel_rfl) (by kernel_rfl) hreg_panic (by rfl) hHeld ?_
    apply Exists.intro
    refine ⟨fun w' hw' => ?_, ?_⟩
    · have hf := hall w' hw'
      go_simp
      try go_bits
      exact yieldsV_mk rfl
    simp only [Act.put, List.setIfInBounds_toArray, List.set_cons_zero, List.set_cons_succ]
    refine hreg_take (i := 3) rfl (by kernel_rfl) (by kernel_rfl) (by kernel_rfl) hreg_panic (by rfl) hHeld ?_
    apply Exists.intro
    refine ⟨fun w' hw' => ?_, ?_⟩
    · have hf := hall w' hw'
      go_simp
      try go_bits
      exact yieldsV_mk rfl
    simp only [Act.put, List.setIfInBounds_toArray, List.set_cons_zero, List.set_cons_succ]
    refine wpAnyH_ready (rs := [4]) (by kernel_rfl) (by simp) ?_
    refine hreg_event (o := _) rfl (by rfl) (fun K hK => ?_) ?_
    · go_simp
      first
        | (go_at_call_of 32 (Value.slice a2 n2 c2); refine Calls.mono (hS1 _ hHeld) ?_; rintro e wn ⟨rfl, hb⟩)
        | (go_at_call_of 32 (Value.slice a4 n4 c4); refine Calls.mono (hS2 _ hHeld) ?_; rintro e wn ⟨rfl, hb⟩)
        | (go_at_call 16; refine Calls.mono (hS3 _ hHeld) ?_; rintro e wn ⟨rfl, hb⟩)
        | (go_at_call 33; refine Calls.mono (hS4 _ hHeld) ?_; rintro e wn ⟨rfl, hb⟩)
        | (go_at_call 14; refine (new_n k _).mono ?_; rintro e wn ⟨an, nn, cn, rfl, hkn, hb, hfn, hnn, -, -⟩; have HNN := Lib.hid hnn; clear hnn)
        | (go_at_call_of 32 (Value.slice an nn cn); refine Calls.mono (same_same_n an _ nn 1 cn 1 [k] _ (SL.alloc hkn _) (new_one _ _ _) (by rw [HNN.out]; simp)) ?_; rintro e wn' ⟨rfl, hb⟩)
        | (go_at_call_of 32 (Value.slice an nn cn); refine Calls.mono (same_same_n an _ nn 1 cn 1 [k] _ hkn (SL.below (new_one _ _ _) hb) (by rw [HNN.out]; simp)) ?_; rintro e wn' ⟨rfl, hb⟩)
        | skip
      refine hK.out _ _ ?_ (fun hHeld' => ?_)
      · first
          | exact hHeld.next hb
          | exact hHeld
          | exact hHeld.alloc _
          | exact hHeld.setCell (by simp <;> omega) _
          | exact (hHeld.alloc _).alloc _
      replace hHeld := hHeld'
      clear hHeld' hK K
      simp only [Act.put, List.setIfInBounds_toArray, List.set_cons_zero, List.set_cons_succ]
      refine hreg_take (i := 5) rfl (by kernel_rfl) (by kernel_rfl) (by kernel_rfl) hreg_panic (by rfl) hHeld ?_
      apply Exists.intro
      refine ⟨fun w' hw' => ?_, ?_⟩
      · have hf := hall w' hw'
        go_simp
        try go_bits
        exact yieldsV_mk rfl
      simp only [Act.put, List.setIfInBounds_toArray, List.set_cons_zero, List.set_cons_succ]
      refine hreg_take (i := 6) rfl (by kernel_rfl) (by kernel_rfl) (by kernel_rfl) hreg_panic (by rfl) hHeld ?_
      apply Exists.intro
      refine ⟨fun w' hw' => ?_, ?_⟩
      · have hf := hall w' hw'
        go_simp
        try go_bits
        exact yieldsV_mk rfl
      simp only [Act.put, List.setIfInBounds_toArray, List.set_cons_zero, List.set_cons_succ]
      refine hreg_take (i := 7) rfl (by kernel_rfl) (by kernel_rfl) (by kernel_rfl) hreg_panic (by rfl) hHeld ?_
      apply Exists.intro
      refine ⟨fun w' hw' => ?_, ?_⟩
      · have hf := hall w' hw'
        go_simp
        try go_bits
        exact yieldsV_mk rfl
      simp only [Act.put, List.setIfInBounds_toArray, List.set_cons_zero, List.set_cons_succ]
      refine hreg_take (i := 8) rfl (by kernel_rfl) (by kernel_rfl) (by kernel_rfl) hreg_panic (by rfl) hHeld ?_
      apply Exists.intro
      refine ⟨fun w' hw' => ?_, ?_⟩
      · have hf := hall w' hw'
        go_simp
        try go_bits
        exact yieldsV_mk rfl
      simp only [Act.put, List.setIfInBounds_toArray, List.set_cons_zero, List.set_cons_succ]
      refine hreg_take (i := 9) rfl (by kernel_rfl) (by kernel_rfl) (by kernel_rfl) hreg_panic (by rfl) hHeld ?_
      apply Exists.intro
      refine ⟨fun w' hw' => ?_, ?_⟩
      · have hf := hall w' hw'
        go_simp
        try go_bits
        exact yieldsV_mk rfl
      simp only [Act.put, List.setIfInBounds_toArray, List.set_cons_zero, List.set_cons_succ]
      refine wpAnyH_ready (rs := [10]) (by kernel_rfl) (by simp) ?_
      refine hreg_event (o := _) rfl (by rfl) (fun K hK => ?_) ?_
      · go_simp
        first
          | (go_at_call_of 32 (Value.slice a2 n2 c2); refine Calls.mono (hS1 _ hHeld) ?_; rintro e wn ⟨rfl, hb⟩)
          | (go_at_call_of 32 (Value.slice a4 n4 c4); refine Calls.mono (hS2 _ hHeld) ?_; rintro e wn ⟨rfl, hb⟩)
          | (go_at_call 16; refine Calls.mono (hS3 _ hHeld) ?_; rintro e wn ⟨rfl, hb⟩)
          | (go_at_call 33; refine Calls.mono (hS4 _ hHeld) ?_; rintro e wn ⟨rfl, hb⟩)
          | (go_at_call 14; refine (new_n k _).mono ?_; rintro e wn ⟨an, nn, cn, rfl, hkn, hb, hfn, hnn, -, -⟩; have HNN := Lib.hid hnn; clear hnn)
          | (go_at_call_of 32 (Value.slice an nn cn); refine Calls.mono (same_same_n an _ nn 1 cn 1 [k] _ (SL.alloc hkn _) (new_one _ _ _) (by rw [HNN.out]; simp)) ?_; rintro e wn' ⟨rfl, hb⟩)
          | (go_at_call_of 32 (Value.slice an nn cn); refine Calls.mono (same_same_n an _ nn 1 cn 1 [k] _ hkn (SL.below (new_one _ _ _) hb) (by rw [HNN.out]; simp)) ?_; rintro e wn' ⟨rfl, hb⟩)
          | skip
        refine hK.out _ _ ?_ (fun hHeld' => ?_)
        · first
            | exact hHeld.next hb
            | exact hHeld
            | exact hHeld.alloc _
            | exact hHeld.setCell (by simp <;> omega) _
            | exact (hHeld.alloc _).alloc _
        replace hHeld := hHeld'
        clear hHeld' hK K
        simp only [Act.put, List.setIfInBounds_toArray, List.set_cons_zero, List.set_cons_succ]
        refine hreg_take (i := 11) rfl (by kernel_rfl) (by kernel_rfl) (by kernel_rfl) hreg_panic (by rfl) hHeld ?_
        apply Exists.intro
        refine ⟨fun w' hw' => ?_, ?_⟩
        · have hf := hall w' hw'
          go_simp
          try go_bits
          exact yieldsV_mk rfl
        simp only [Act.put, List.setIfInBounds_toArray, List.set_cons_zero, List.set_cons_succ]
        refine hreg_take (i := 12) rfl (by kernel_rfl) (by kernel_rfl) (by kernel_rfl) hreg_panic (by rfl) hHeld ?_
        apply Exists.intro
        refine ⟨fun w' hw' => ?_, ?_⟩
        · have hf := hall w' hw'
          go_simp
          try go_bits
          exact yieldsV_mk rfl
        simp only [Act.put, List.setIfInBounds_toArray, List.set_cons_zero, List.set_cons_succ]
        refine hreg_take (i := 13) rfl (by kernel_rfl) (by kernel_rfl) (by kernel_rfl) hreg_panic (by rfl) hHeld ?_
        apply Exists.intro
        refine ⟨fun w' hw' => ?_, ?_⟩
        · have hf := hall w' hw'
          go_simp
          try go_bits
          exact yieldsV_mk rfl
        simp only [Act.put, List.setIfInBounds_toArray, List.set_cons_zero, List.set_cons_succ]
        refine hreg_take (i := 14) rfl (by kernel_rfl) (by kernel_rfl) (by kernel_rfl) hreg_panic (by rfl) hHeld ?_
        apply Exists.intro
        refine ⟨fun w' hw' => ?_, ?_⟩
        · have hf := hall w' hw'
          go_simp
          try go_bits
          exact yieldsV_mk rfl
        simp only [Act.put, List.setIfInBounds_toArray, List.set_cons_zero, List.set_cons_succ]
        refine hreg_take (i := 15) rfl (by kernel_rfl) (by kernel_rfl) (by kernel_rfl) hreg_panic (by rfl) hHeld ?_
        apply Exists.intro
        refine ⟨fun w' hw' => ?_, ?_⟩
        · have hf := hall w' hw'
          go_simp
          try go_bits
          exact yieldsV_mk rfl
        simp only [Act.put, List.setIfInBounds_toArray, List.set_cons_zero, List.set_cons_succ]
        refine hreg_take (i := 16) rfl (by kernel_rfl) (by kernel_rfl) (by kernel_rfl) hreg_panic (by rfl) hHeld ?_
        apply Exists.intro
        refine ⟨fun w' hw' => ?_, ?_⟩
        · have hf := hall w' hw'
          go_simp
          try go_bits
          exact yieldsV_mk rfl
        simp only [Act.put, List.setIfInBounds_toArray, List.set_cons_zero, List.set_cons_succ]
        refine hreg_take (i := 17) rfl (by kernel_rfl) (by kernel_rfl) (by kernel_rfl) hreg_panic (by rfl) hHeld ?_
        apply Exists.intro
        refine ⟨fun w' hw' => ?_, ?_⟩
        · have hf := hall w' hw'
          go_simp
          try go_bits
          exact yieldsV_mk rfl
        simp only [Act.put, List.setIfInBounds_toArray, List.set_cons_zero, List.set_cons_succ]
        refine hreg_take (i := 18) rfl (by kernel_rfl) (by kernel_rfl) (by kernel_rfl) hreg_panic (by rfl) hHeld ?_
        apply Exists.intro
        refine ⟨fun w' hw' => ?_, ?_⟩
        · have hf := hall w' hw'
          go_simp
          try go_bits
          exact yieldsV_mk rfl
        simp only [Act.put, List.setIfInBounds_toArray, List.set_cons_zero, List.set_cons_succ]
        refine hreg_take (i := 19) rfl (by kernel_rfl) (by kernel_rfl) (by kernel_rfl) hreg_panic (by rfl) hHeld ?_
        apply Exists.intro
        refine ⟨fun w' hw' => ?_, ?_⟩
        · have hf := hall w' hw'
          go_simp
          try go_bits
          exact yieldsV_mk rfl
        simp only [Act.put, List.setIfInBounds_toArray, List.set_cons_zero, List.set_cons_succ]
        refine hreg_take (i := 20) rfl (by kernel_rfl) (by kernel_rfl) (by kernel_rfl) hreg_panic (by rfl) hHeld ?_
        apply Exists.intro
        refine ⟨fun w' hw' => ?_, ?_⟩
        · have hf := hall w' hw'
          go_simp
          try go_bits
          exact yieldsV_mk rfl
        simp only [Act.put, List.setIfInBounds_toArray, List.set_cons_zero, List.set_cons_succ]
        refine hreg_take (i := 21) rfl (by kernel_rfl) (by kernel_rfl) (by kernel_rfl) hreg_panic (by rfl) hHeld ?_
        apply Exists.intro
        refine ⟨fun w' hw' => ?_, ?_⟩
        · have hf := hall w' hw'
          go_simp
          try go_bits
          exact yieldsV_mk rfl
        simp only [Act.put, List.setIfInBounds_toArray, List.set_cons_zero, List.set_cons_succ]
        refine hreg_take (i := 22) rfl (by kernel_rfl) (by kernel_rfl) (by kernel_rfl) hreg_panic (by rfl) hHeld ?_
        apply Exists.intro
        refine ⟨fun w' hw' => ?_, ?_⟩
        · have hf := hall w' hw'
          go_simp
          try go_bits
          exact yieldsV_mk rfl
        simp only [Act.put, List.setIfInBounds_toArray, List.set_cons_zero, List.set_cons_succ]
        refine hreg_take (i := 23) rfl (by kernel_rfl) (by kernel_rfl) (by kernel_rfl) hreg_panic (by rfl) hHeld ?_
        apply Exists.intro
        refine ⟨fun w' hw' => ?_, ?_⟩
        · have hf := hall w' hw'
          go_simp
          try go_bits
          exact yieldsV_mk rfl
        simp only [Act.put, List.setIfInBounds_toArray, List.set_cons_zero, List.set_cons_succ]
        refine hreg_take (i := 24) rfl (by kernel_rfl) (by kernel_rfl) (by kernel_rfl) hreg_panic (by rfl) hHeld ?_
        apply Exists.intro
        refine ⟨fun w' hw' => ?_, ?_⟩
        · have hf := hall w' hw'
          go_simp
          try go_bits
          exact yieldsV_mk rfl
        simp only [Act.put, List.setIfInBounds_toArray, List.set_cons_zero, List.set_cons_succ]
        refine hreg_take (i := 25) rfl (by kernel_rfl) (by kernel_rfl) (by kernel_rfl) hreg_panic (by rfl) hHeld ?_
        apply Exists.intro
        refine ⟨fun w' hw' => ?_, ?_⟩
        · have hf := hall w' hw'
          go_simp
          try go_bits
          exact yieldsV_mk rfl
        simp only [Act.put, List.setIfInBounds_toArray, List.set_cons_zero, List.set_cons_succ]
        refine hreg_take (i := 26) rfl (by kernel_rfl) (by kernel_rfl) (by kernel_rfl) hreg_panic (by rfl) hHeld ?_
        apply Exists.intro
        refine ⟨fun w' hw' => ?_, ?_⟩
        · have hf := hall w' hw'
          go_simp
          try go_bits
          exact yieldsV_mk rfl
        simp only [Act.put, List.setIfInBounds_toArray, List.set_cons_zero, List.set_cons_succ]
        refine hreg_take (i := 27) rfl (by kernel_rfl) (by kernel_rfl) (by kernel_rfl) hreg_panic (by rfl) hHeld ?_
        apply Exists.intro
        refine ⟨fun w' hw' => ?_, ?_⟩
        · have hf := hall w' hw'
          go_simp
          try go_bits
          exact yieldsV_mk rfl
        simp only [Act.put, List.setIfInBounds_toArray, List.set_cons_zero, List.set_cons_succ]
        refine hreg_take (i := 28) rfl (by kernel_rfl) (by kernel_rfl) (by kernel_rfl) hreg_panic (by rfl) hHeld ?_
        apply Exists.intro
        refine ⟨fun w' hw' => ?_, ?_⟩
        · have hf := hall w' hw'
          go_simp
          try go_bits
          exact yieldsV_mk rfl
        simp only [Act.put, List.setIfInBounds_toArray, List.set_cons_zero, List.set_cons_succ]
        refine hreg_take (i := 29) rfl (by kernel_rfl) (by kernel_rfl) (by kernel_rfl) hreg_panic (by rfl) hHeld ?_
        apply Exists.intro
        refine ⟨fun w' hw' => ?_, ?_⟩
        · have hf := hall w' hw'
          go_simp
          try go_bits
          exact yieldsV_mk rfl
        simp only [Act.put, List.setIfInBounds_toArray, List.set_cons_zero, List.set_cons_succ]
        refine hreg_take (i := 31) rfl (by kernel_rfl) (by kernel_rfl) (by kernel_rfl) hreg_panic (by rfl) hHeld ?_
        apply Exists.intro
        refine ⟨fun w' hw' => ?_, ?_⟩
        · have hf := hall w' hw'
          go_simp
          try go_bits
          exact yieldsV_mk rfl
        simp only [Act.put, List.setIfInBounds_toArray, List.set_cons_zero, List.set_cons_succ]
        refine hreg_take (i := 32) rfl (by kernel_rfl) (by kernel_rfl) (by kernel_rfl) hreg_panic (by rfl) hHeld ?_
        apply Exists.intro
        refine ⟨fun w' hw' => ?_, ?_⟩
        · have hf := hall w' hw'
          go_simp
          try go_bits
          exact yieldsV_mk rfl
        simp only [Act.put, List.setIfInBounds_toArray, List.set_cons_zero, List.set_cons_succ]
        refine wpAnyH_ready (rs := [30]) (by kernel_rfl) (by simp) ?_
        refine hreg_event (o := _) rfl (by rfl) (fun K hK => ?_) ?_
        · go_simp
          first
            | (go_at_call_of 32 (Value.slice a2 n2 c2); refine Calls.mono (hS1 _ hHeld) ?_; rintro e wn ⟨rfl, hb⟩)
            | (go_at_call_of 32 (Value.slice a4 n4 c4); refine Calls.mono (hS2 _ hHeld) ?_; rintro e wn ⟨rfl, hb⟩)
            | (go_at_call 16; refine Calls.mono (hS3 _ hHeld) ?_; rintro e wn ⟨rfl, hb⟩)
            | (go_at_call 33; refine Calls.mono (hS4 _ hHeld) ?_; rintro e wn ⟨rfl, hb⟩)
            | (go_at_call 14; refine (new_n k _).mono ?_; rintro e wn ⟨an, nn, cn, rfl, hkn, hb, hfn, hnn, -, -⟩; have HNN := Lib.hid hnn; clear hnn)
            | (go_at_call_of 32 (Value.slice an nn cn); refine Calls.mono (same_same_n an _ nn 1 cn 1 [k] _ (SL.alloc hkn _) (new_one _ _ _) (by rw [HNN.out]; simp)) ?_; rintro e wn' ⟨rfl, hb⟩)
            | (go_at_call_of 32 (Value.slice an nn cn); refine Calls.mono (same_same_n an _ nn 1 cn 1 [k] _ hkn (SL.below (new_one _ _ _) hb) (by rw [HNN.out]; simp)) ?_; rintro e wn' ⟨rfl, hb⟩)
            | skip
          refine hK.out _ _ ?_ (fun hHeld' => ?_)
          · first
              | exact hHeld.next hb
              | exact hHeld
              | exact hHeld.alloc _
              | exact hHeld.setCell (by simp <;> omega) _
              | exact (hHeld.alloc _).alloc _
          replace hHeld := hHeld'
          clear hHeld' hK K
          simp only [Act.put, List.setIfInBounds_toArray, List.set_cons_zero, List.set_cons_succ]
          refine wpAnyH_ready (rs := [33]) (by kernel_rfl) (by simp) ?_
          refine hreg_event (o := _) rfl (by rfl) (fun K hK => ?_) ?_
          · go_simp
            first
              | (go_at_call_of 32 (Value.slice a2 n2 c2); refine Calls.mono (hS1 _ hHeld) ?_; rintro e wn ⟨rfl, hb⟩)
              | (go_at_call_of 32 (Value.slice a4 n4 c4); refine Calls.mono (hS2 _ hHeld) ?_; rintro e wn ⟨rfl, hb⟩)
              | (go_at_call 16; refine Calls.mono (hS3 _ hHeld) ?_; rintro e wn ⟨rfl, hb⟩)
              | (go_at_call 33; refine Calls.mono (hS4 _ hHeld) ?_; rintro e wn ⟨rfl, hb⟩)
              | (go_at_call 14; refine (new_n k _).mono ?_; rintro e wn ⟨an, nn, cn, rfl, hkn, hb, hfn, hnn, -, -⟩; have HNN := Lib.hid hnn; clear hnn)
              | (go_at_call_of 32 (Value.slice an nn cn); refine Calls.mono (same_same_n an _ nn 1 cn 1 [k] _ (SL.alloc hkn _) (new_one _ _ _) (by rw [HNN.out]; simp)) ?_; rintro e wn' ⟨rfl, hb⟩)
              | (go_at_call_of 32 (Value.slice an nn cn); refine Calls.mono (same_same_n an _ nn 1 cn 1 [k] _ hkn (SL.below (new_one _ _ _) hb) (by rw [HNN.out]; simp)) ?_; rintro e wn' ⟨rfl, hb⟩)
              | skip
            refine hK.out _ _ ?_ (fun hHeld' => ?_)
            · first
                | exact hHeld.next hb
                | exact hHeld
                | exact hHeld.alloc _
                | exact hHeld.setCell (by simp <;> omega) _
                | exact (hHeld.alloc _).alloc _
            replace hHeld := hHeld'
            clear hHeld' hK K
            simp only [Act.put, List.setIfInBounds_toArray, List.set_cons_zero, List.set_cons_succ]
            refine hreg_take (i := 34) rfl (by kernel_rfl) (by kernel_rfl) (by kernel_rfl) hreg_panic (by rfl) hHeld ?_
            apply Exists.intro
            refine ⟨fun w' hw' => ?_, ?_⟩
            · have hf := hall w' hw'
              go_simp
              try go_bits
              exact yieldsV_mk rfl
            simp only [Act.put, List.setIfInBounds_toArray, List.set_cons_zero, List.set_cons_succ]
            refine hreg_take (i := 35) rfl (by kernel_rfl) (by kernel_rfl) (by kernel_rfl) hreg_panic (by rfl) hHeld ?_
            apply Exists.intro
            refine ⟨fun w' hw' => ?_, ?_⟩
            · have hf := hall w' hw'
              go_simp
              try go_bits
              exact yieldsV_mk rfl
            simp only [Act.put, List.setIfInBounds_toArray, List.set_cons_zero, List.set_cons_succ]
            refine hreg_take (i := 36) rfl (by kernel_rfl) (by kernel_rfl) (by kernel_rfl) hreg_panic (by rfl) hHeld ?_
            apply Exists.intro
            refine ⟨fun w' hw' => ?_, ?_⟩
            · have hf := hall w' hw'
              go_simp
              try go_bits
              exact yieldsV_mk rfl
            simp only [Act.put, List.setIfInBounds_toArray, List.set_cons_zero, List.set_cons_succ]
            refine hreg_take (i := 37) rfl (by kernel_rfl) (by kernel_rfl) (by kernel_rfl) hreg_panic (by rfl) hHeld ?_
            apply Exists.intro
            refine ⟨fun w' hw' => ?_, ?_⟩
            · have hf := hall w' hw'
              go_simp
              try go_bits
              exact yieldsV_mk rfl
            simp only [Act.put, List.setIfInBounds_toArray, List.set_cons_zero, List.set_cons_succ]
            refine hreg_take (i := 40) rfl (by kernel_rfl) (by kernel_rfl) (by kernel_rfl) hreg_panic (by rfl) hHeld ?_
            apply Exists.intro
            refine ⟨fun w' hw' => ?_, ?_⟩
            · have hf := hall w' hw'
              go_simp
              try go_bits
              exact yieldsV_mk rfl
            simp only [Act.put, List.setIfInBounds_toArray, List.set_cons_zero, List.set_cons_succ]
            refine wpAnyH_ready (rs := [38, 41]) (by kernel_rfl) (by simp) ?_
            refine hreg_event (o := _) rfl (by rfl) (fun K hK => ?_) ?_
            · go_simp
              first
                | (go_at_call_of 32 (Value.slice a2 n2 c2); refine Calls.mono (hS1 _ hHeld) ?_; rintro e wn ⟨rfl, hb⟩)
                | (go_at_call_of 32 (Value.slice a4 n4 c4); refine Calls.mono (hS2 _ hHeld) ?_; rintro e wn ⟨rfl, hb⟩)
                | (go_at_call 16; refine Calls.mono (hS3 _ hHeld) ?_; rintro e wn ⟨rfl, hb⟩)
                | (go_at_call 33; refine Calls.mono (hS4 _ hHeld) ?_; rintro e wn ⟨rfl, hb⟩)
                | (go_at_call 14; refine (new_n k _).mono ?_; rintro e wn ⟨an, nn, cn, rfl, hkn, hb, hfn, hnn, -, -⟩; have HNN := Lib.hid hnn; clear hnn)
                | (go_at_call_of 32 (Value.slice an nn cn); refine Calls.mono (same_same_n an _ nn 1 cn 1 [k] _ (SL.alloc hkn _) (new_one _ _ _) (by rw [HNN.out]; simp)) ?_; rintro e wn' ⟨rfl, hb⟩)
                | (go_at_call_of 32 (Value.slice an nn cn); refine Calls.mono (same_same_n an _ nn 1 cn 1 [k] _ hkn (SL.below (new_one _ _ _) hb) (by rw [HNN.out]; simp)) ?_; rintro e wn' ⟨rfl, hb⟩)
                | skip
              refine hK.out _ _ ?_ (fun hHeld' => ?_)
              · first
                  | exact hHeld.next hb
                  | exact hHeld
                  | exact hHeld.alloc _
                  | exact hHeld.setCell (by simp <;> omega) _
                  | exact (hHeld.alloc _).alloc _
              replace hHeld := hHeld'
              clear hHeld' hK K
              simp only [Act.put, List.setIfInBounds_toArray, List.set_cons_zero, List.set_cons_succ]
              refine hreg_take (i := 39) rfl (by kernel_rfl) (by kernel_rfl) (by kernel_rfl) hreg_panic (by rfl) hHeld ?_
              apply Exists.intro
              refine ⟨fun w' hw' => ?_, ?_⟩
              · have hf := hall w' hw'
                go_simp
                try go_bits
                exact yieldsV_mk rfl
              simp only [Act.put, List.setIfInBounds_toArray, List.set_cons_zero, List.set_cons_succ]
              refine wpAnyH_ready (rs := [41]) (by kernel_rfl) (by simp) ?_
              refine hreg_event (o := _) rfl (by rfl) (fun K hK => ?_) ?_
              · go_simp
                first
                  | (go_at_call_of 32 (Value.slice a2 n2 c2); refine Calls.mono (hS1 _ hHeld) ?_; rintro e wn ⟨rfl, hb⟩)
                  | (go_at_call_of 32 (Value.slice a4 n4 c4); refine Calls.mono (hS2 _ hHeld) ?_; rintro e wn ⟨rfl, hb⟩)
                  | (go_at_call 16; refine Calls.mono (hS3 _ hHeld) ?_; rintro e wn ⟨rfl, hb⟩)
                  | (go_at_call 33; refine Calls.mono (hS4 _ hHeld) ?_; rintro e wn ⟨rfl, hb⟩)
                  | (go_at_call 14; refine (new_n k _).mono ?_; rintro e wn ⟨an, nn, cn, rfl, hkn, hb, hfn, hnn, -, -⟩; have HNN := Lib.hid hnn; clear hnn)
                  | (go_at_call_of 32 (Value.slice an nn cn); refine Calls.mono (same_same_n an _ nn 1 cn 1 [k] _ (SL.alloc hkn _) (new_one _ _ _) (by rw [HNN.out]; simp)) ?_; rintro e wn' ⟨rfl, hb⟩)
                  | (go_at_call_of 32 (Value.slice an nn cn); refine Calls.mono (same_same_n an _ nn 1 cn 1 [k] _ hkn (SL.below (new_one _ _ _) hb) (by rw [HNN.out]; simp)) ?_; rintro e wn' ⟨rfl, hb⟩)
                  | skip
                refine hK.out _ _ ?_ (fun hHeld' => ?_)
                · first
                    | exact hHeld.next hb
                    | exact hHeld
                    | exact hHeld.alloc _
                    | exact hHeld.setCell (by simp <;> omega) _
                    | exact (hHeld.alloc _).alloc _
                replace hHeld := hHeld'
                clear hHeld' hK K
                simp only [Act.put, List.setIfInBounds_toArray, List.set_cons_zero, List.set_cons_succ]
                refine wpAnyH_ready (rs := [42]) (by kernel_rfl) (by simp) ?_
                refine hreg_event (o := _) rfl (by rfl) (fun K hK => ?_) ?_
                · go_simp
                  first
                    | (go_at_call_of 32 (Value.slice a2 n2 c2); refine Calls.mono (hS1 _ hHeld) ?_; rintro e wn ⟨rfl, hb⟩)
                    | (go_at_call_of 32 (Value.slice a4 n4 c4); refine Calls.mono (hS2 _ hHeld) ?_; rintro e wn ⟨rfl, hb⟩)
                    | (go_at_call 16; refine Calls.mono (hS3 _ hHeld) ?_; rintro e wn ⟨rfl, hb⟩)
                    | (go_at_call 33; refine Calls.mono (hS4 _ hHeld) ?_; rintro e wn ⟨rfl, hb⟩)
                    | (go_at_call 14; refine (new_n k _).mono ?_; rintro e wn ⟨an, nn, cn, rfl, hkn, hb, hfn, hnn, -, -⟩; have HNN := Lib.hid hnn; clear hnn)
                    | (go_at_call_of 32 (Value.slice an nn cn); refine Calls.mono (same_same_n an _ nn 1 cn 1 [k] _ (SL.alloc hkn _) (new_one _ _ _) (by rw [HNN.out]; simp)) ?_; rintro e wn' ⟨rfl, hb⟩)
                    | (go_at_call_of 32 (Value.slice an nn cn); refine Calls.mono (same_same_n an _ nn 1 cn 1 [k] _ hkn (SL.below (new_one _ _ _) hb) (by rw [HNN.out]; simp)) ?_; rintro e wn' ⟨rfl, hb⟩)
                    | skip
                  refine hK.out _ _ ?_ (fun hHeld' => ?_)
                  · first
                      | exact hHeld.next hb
                      | exact hHeld
                      | exact hHeld.alloc _
                      | exact hHeld.setCell (by simp <;> omega) _
                      | exact (hHeld.alloc _).alloc _
                  replace hHeld := hHeld'
                  clear hHeld' hK K
                  simp only [Act.put, List.setIfInBounds_toArray, List.set_cons_zero, List.set_cons_succ]
                  refine hreg_take (i := 43) rfl (by kernel_rfl) (by kernel_rfl) (by kernel_rfl) hreg_panic (by rfl) hHeld ?_
                  apply Exists.intro
                  refine ⟨fun w' hw' => ?_, ?_⟩
                  · have hf := hall w' hw'
                    go_simp
                    try go_bits
                    exact yieldsV_mk rfl
                  simp only [Act.put, List.setIfInBounds_toArray, List.set_cons_zero, List.set_cons_succ]
                  refine hreg_take (i := 44) rfl (by kernel_rfl) (by kernel_rfl) (by kernel_rfl) hreg_panic (by rfl) hHeld ?_
                  apply Exists.intro
                  refine ⟨fun w' hw' => ?_, ?_⟩
                  · have hf := hall w' hw'
                    go_simp
                    try go_bits
                    exact yieldsV_mk rfl
                  simp only [Act.put, List.setIfInBounds_toArray, List.set_cons_zero, List.set_cons_succ]
                  refine wpAnyH_done (by kernel_rfl) ?_ _
                  refine NoPanic.normal ?_
                  go_wp2
                  go_ret
                  exact gives_bool rfl (since_next S1.below hHeld.out)
                exact AllReadyH.nil
              exact AllReadyH.nil
            refine hreg_event (o := _) rfl (by rfl) (fun K hK => ?_) ?_
            · go_simp
              first
                | (go_at_call_of 32 (Value.slice a2 n2 c2); refine Calls.mono (hS1 _ hHeld) ?_; rintro e wn ⟨rfl, hb⟩)
                | (go_at_call_of 32 (Value.slice a4 n4 c4); refine Calls.mono (hS2 _ hHeld) ?_; rintro e wn ⟨rfl, hb⟩)
                | (go_at_call 16; refine Calls.mono (hS3 _ hHeld) ?_; rintro e wn ⟨rfl, hb⟩)
                | (go_at_call 33; refine Calls.mono (hS4 _ hHeld) ?_; rintro e wn ⟨rfl, hb⟩)
                | (go_at_call 14; refine (new_n k _).mono ?_; rintro e wn ⟨an, nn, cn, rfl, hkn, hb, hfn, hnn, -, -⟩; have HNN := Lib.hid hnn; clear hnn)
                | (go_at_call_of 32 (Value.slice an nn cn); refine Calls.mono (same_same_n an _ nn 1 cn 1 [k] _ (SL.alloc hkn _) (new_one _ _ _) (by rw [HNN.out]; simp)) ?_; rintro e wn' ⟨rfl, hb⟩)
                | (go_at_call_of 32 (Value.slice an nn cn); refine Calls.mono (same_same_n an _ nn 1 cn 1 [k] _ hkn (SL.below (new_one _ _ _) hb) (by rw [HNN.out]; simp)) ?_; rintro e wn' ⟨rfl, hb⟩)
                | skip
              refine hK.out _ _ ?_ (fun hHeld' => ?_)
              · first
                  | exact hHeld.next hb
                  | exact hHeld
                  | exact hHeld.alloc _
                  | exact hHeld.setCell (by simp <;> omega) _
                  | exact (hHeld.alloc _).alloc _
              replace hHeld := hHeld'
              clear hHeld' hK K
              simp only [Act.put, List.setIfInBounds_toArray, List.set_cons_zero, List.set_cons_succ]
              refine wpAnyH_ready (rs := [38]) (by kernel_rfl) (by simp) ?_
              refine hreg_event (o := _) rfl (by rfl) (fun K hK => ?_) ?_
              · go_simp
                first
                  | (go_at_call_of 32 (Value.slice a2 n2 c2); refine Calls.mono (hS1 _ hHeld) ?_; rintro e wn ⟨rfl, hb⟩)
                  | (go_at_call_of 32 (Value.slice a4 n4 c4); refine Calls.mono (hS2 _ hHeld) ?_; rintro e wn ⟨rfl, hb⟩)
                  | (go_at_call 16; refine Calls.mono (hS3 _ hHeld) ?_; rintro e wn ⟨rfl, hb⟩)
                  | (go_at_call 33; refine Calls.mono (hS4 _ hHeld) ?_; rintro e wn ⟨rfl, hb⟩)
                  | (go_at_call 14; refine (new_n k _).mono ?_; rintro e wn ⟨an, nn, cn, rfl, hkn, hb, hfn, hnn, -, -⟩; have HNN := Lib.hid hnn; clear hnn)
                  | (go_at_call_of 32 (Value.slice an nn cn); refine Calls.mono (same_same_n an _ nn 1 cn 1 [k] _ (SL.alloc hkn _) (new_one _ _ _) (by rw [HNN.out]; simp)) ?_; rintro e wn' ⟨rfl, hb⟩)
                  | (go_at_call_of 32 (Value.slice an nn cn); refine Calls.mono (same_same_n an _ nn 1 cn 1 [k] _ hkn (SL.below (new_one _ _ _) hb) (by rw [HNN.out]; simp)) ?_; rintro e wn' ⟨rfl, hb⟩)
                  | skip
                refine hK.out _ _ ?_ (fun hHeld' => ?_)
                · first
                    | exact hHeld.next hb
                    | exact hHeld
                    | exact hHeld.alloc _
                    | exact hHeld.setCell (by simp <;> omega) _
                    | exact (hHeld.alloc _).alloc _
                replace hHeld := hHeld'
                clear hHeld' hK K
                simp only [Act.put, List.setIfInBounds_toArray, List.set_cons_zero, List.set_cons_succ]
                refine hreg_take (i := 39) rfl (by kernel_rfl) (by kernel_rfl) (by kernel_rfl) hreg_panic (by rfl) hHeld ?_
                apply Exists.intro
                refine ⟨fun w' hw' => ?_, ?_⟩
                · have hf := hall w' hw'
                  go_simp
                  try go_bits
                  exact yieldsV_mk rfl
                simp only [Act.put, List.setIfInBounds_toArray, List.set_cons_zero, List.set_cons_succ]
                refine wpAnyH_ready (rs := [42]) (by kernel_rfl) (by simp) ?_
                refine hreg_event (o := _) rfl (by rfl) (fun K hK => ?_) ?_
                · go_simp
                  first
                    | (go_at_call_of 32 (Value.slice a2 n2 c2); refine Calls.mono (hS1 _ hHeld) ?_; rintro e wn ⟨rfl, hb⟩)
                    | (go_at_call_of 32 (Value.slice a4 n4 c4); refine Calls.mono (hS2 _ hHeld) ?_; rintro e wn ⟨rfl, hb⟩)
                    | (go_at_call 16; refine Calls.mono (hS3 _ hHeld) ?_; rintro e wn ⟨rfl, hb⟩)
                    | (go_at_call 33; refine Calls.mono (hS4 _ hHeld) ?_; rintro e wn ⟨rfl, hb⟩)
                    | (go_at_call 14; refine (new_n k _).mono ?_; rintro e wn ⟨an, nn, cn, rfl, hkn, hb, hfn, hnn, -, -⟩; have HNN := Lib.hid hnn; clear hnn)
                    | (go_at_call_of 32 (Value.slice an nn cn); refine Calls.mono (same_same_n an _ nn 1 cn 1 [k] _ (SL.alloc hkn _) (new_one _ _ _) (by rw [HNN.out]; simp)) ?_; rintro e wn' ⟨rfl, hb⟩)
                    | (go_at_call_of 32 (Value.slice an nn cn); refine Calls.mono (same_same_n an _ nn 1 cn 1 [k] _ hkn (SL.below (new_one _ _ _) hb) (by rw [HNN.out]; simp)) ?_; rintro e wn' ⟨rfl, hb⟩)
                    | skip
                  refine hK.out _ _ ?_ (fun hHeld' => ?_)
                  · first
                      | exact hHeld.next hb
                      | exact hHeld
                      | exact hHeld.alloc _
                      | exact hHeld.setCell (by simp <;> omega) _
                      | exact (hHeld.alloc _).alloc _
                  replace hHeld := hHeld'
                  clear hHeld' hK K
                  simp only [Act.put, List.setIfInBounds_toArray, List.set_cons_zero, List.set_cons_succ]
                  refine hreg_take (i := 43) rfl (by kernel_rfl) (by kernel_rfl) (by kernel_rfl) hreg_panic (by rfl) hHeld ?_
                  apply Exists.intro
                  refine ⟨fun w' hw' => ?_, ?_⟩
                  · have hf := hall w' hw'
                    go_simp
                    try go_bits
                    exact yieldsV_mk rfl
                  simp only [Act.put, List.setIfInBounds_toArray, List.set_cons_zero, List.set_cons_succ]
                  refine hreg_take (i := 44) rfl (by kernel_rfl) (by kernel_rfl) (by kernel_rfl) hreg_panic (by rfl) hHeld ?_
                  apply Exists.intro
                  refine ⟨fun w' hw' => ?_, ?_⟩
                  · have hf := hall w' hw'
                    go_simp
                    try go_bits
                    exact yieldsV_mk rfl
                  simp only [Act.put, List.setIfInBounds_toArray, List.set_cons_zero, List.set_cons_succ]
                  refine wpAnyH_done (by kernel_rfl) ?_ _
                  refine NoPanic.normal ?_
                  go_wp2
                  go_ret
                  exact gives_bool rfl (since_next S1.below hHeld.out)
                exact AllReadyH.nil
              exact AllReadyH.nil
            exact AllReadyH.nil
          exact AllReadyH.nil
        exact AllReadyH.nil
      exact AllReadyH.nil
    exact AllReadyH.nil

end Go.Proofs.Ytpgaibihfplhcaa
