/- TreeEmpty: roots of nothing are pairs of the lower ones; a tree of nothing has the highest one. -/
import Derived.Test.YtabikhmaiennpaaTree4
import Derived.Test.YtabikhmaiennpaaShaRef5
namespace Go.Proofs.Ytabikhmaiennpaa
open Go.RowKit
set_option linter.unusedVariables false
set_option linter.unusedSimpArgs false
set_option maxRecDepth 100000
attribute [local irreducible] Int.lt Int.le
attribute [local go_sem ↓] load_key store_key alloc_key build0_key eq_key load_a33 store_a33 alloc_a33 load_tree store_tree alloc_tree build0_tree build1_key
attribute [local go_sem] rowOf_drew canPut_drew canPut_alloc_old canPut_alloc_new setCells_alloc_new treeC_g0

set_option maxHeartbeats 4000000 in
theorem root0_any (W : World) : Calls Try.prog 14 #[.agg (treeC zeroTree).toArray] W (Gives (.agg (keyC (emp 32)).toArray) W) := by
  have hmf : ∀ (fn : Fn) (first cap : Array Value) (w : World), (Instr.makeFunc fn first cap).run Try.prog w = .ok (.func fn first cap) w := fun _ _ _ _ => rfl
  obtain ⟨q1, q2, hz, hB⟩ := two W (treeC zeroTree).toArray (keyC zeroKey).toArray 28 23
  have hT0 : TB _ W.heap.size zeroTree := q1
  have hX0 : KB _ (W.heap.size + 1) zeroKey := q2
  clear q1 q2
  replace hT0 := Box.mk hT0
  replace hX0 := Box.mk hX0
  replace hB := Box.mk hB
  replace hz := Box.mk hz
  go_enter Try.func14, Try.ntmps14
  go_wp2_with fail
  generalize (W.alloc (.cells (treeC zeroTree).toArray 28)).alloc (.cells (keyC zeroKey).toArray 23) = w0 at *
  refine (empty_any w0).mono ?_
  rintro e w1 ⟨rfl, hb1⟩
  have hb2 := hb1.alloc hb1.size (.cells (a33C (empE 32)).toArray 40)
  have hE2 : A3 (w1.alloc (.cells (a33C (empE 32)).toArray 40)) w1.heap.size (empE 32) := heap_alloc_new w1 _
  have hT2 := hT0.out.below hb2
  have hX2 := hX0.out.below hb2
  have hB2 := hB.out.trans (hb2.mono (by rw [hz.out]; omega))
  have hz1 := hb1.size
  have hz0 := hz.out
  replace hE2 := Box.mk hE2
  replace hT2 := Box.mk hT2
  replace hX2 := Box.mk hX2
  replace hB2 := Box.mk hB2
  replace hb1 := Box.mk hb1
  replace hb2 := Box.mk hb2
  obtain ⟨eb, heb⟩ : ∃ n, w1.heap.size = n := ⟨_, rfl⟩
  go_wp2_with fail
  generalize w1.alloc (.cells (a33C (empE 32)).toArray 40) = w2 at *
  have hE3 : Box (A3 w2 eb (empE 32)) := by rw [← heb]; exact hE2
  have hne : W.heap.size + 1 ≠ eb := by omega
  replace heb := Box.mk heb
  replace hz0 := Box.mk hz0
  replace hz1 := Box.mk hz1
  obtain ⟨s, hs⟩ : ∃ s, W.heap.size = s := ⟨_, rfl⟩
  rw [hs] at hT2 hX2 hne ⊢
  replace hs := Box.mk hs
  go_loopw [8] (fun i wr => Below W.heap.size W wr ∧ ∃ j : Nat, j ≤ 32 ∧ i = .int .i64 j ∧ TB wr s zeroTree ∧ KB wr (s + 1) (emp j) ∧ A3 wr eb (empE 32)) (fun i _ => 32 - (intOf i).toNat)
  case atStart => exact ⟨hB2.out, 0, Nat.zero_le _, rfl, hT2.out, hX2.out, hE3.out⟩
  case round =>
    obtain ⟨hb, j, hj, rfl, hT, hX, hE⟩ := hrel
    by_cases hj2 : j < 32
    · have hjl : (j : Int) < 32 := by omega
      have hup := up0_any hT hX hE j hj2
      have he : pairK (emp j) (emp j) = emp (j + 1) := rfl
      rw [he] at hup
      replace hT := Box.mk hT
      replace hX := Box.mk hX
      replace hE := Box.mk hE
      replace hb := Box.mk hb
      replace hup := Box.mk hup
      replace he := Box.mk he
      go_wp2_with fail
      refine hup.out.mono ?_
      rintro e w5 ⟨rfl, hb5⟩
      have hX5 := hX.out.below hb5
      have p5 := hX5.can
      have l5 := hX5.lt
      have hX6 := Box.mk (hX5.put (emp (j + 1)))
      have hT6 : Box (TB (w5.setCells (s + 1) 0 (keyC (emp (j + 1)))) s zeroTree) := Box.mk ((setCells_ne (by omega) _ _).trans (hT.out.below hb5))
      have hE6 : Box (A3 (w5.setCells (s + 1) 0 (keyC (emp (j + 1)))) eb (empE 32)) := Box.mk ((setCells_ne (by omega) _ _).trans (hE.out.below hb5))
      have hB6 := Box.mk (below_setCells (B := W.heap.size) (b := s + 1) (by have := hs.out; omega) (keyC (emp (j + 1))) 0 _ _ (hb.out.trans (hb5.mono hb.out.size)))
      replace hX5 := Box.mk hX5
      replace hb5 := Box.mk hb5
      generalize emp (j + 1) = k1 at *
      go_wp2
      go_roundw
      case rel => exact ⟨hB6.out, j + 1, by omega, by go_num, hT6.out, by rw [← he.out] at *; exact hX6.out, hE6.out⟩
      case measure => simp [intOf]; omega
    · obtain rfl : j = 32 := by omega
      have r1 := hX.row
      have p1 := hX.can
      have l1 := hX.lt
      have rf := Box.mk (hX.put (emp 32)).row
      have bf := Box.mk (below_setCells (B := W.heap.size) (b := s + 1) (by have := hs.out; omega) (keyC (emp 32)) 0 _ _ hb)
      replace hT := Box.mk hT
      replace hX := Box.mk hX
      replace hE := Box.mk hE
      replace hb := Box.mk hb
      generalize emp 32 = k32 at *
      go_wp2
      refine bodyPost_ret (v := .agg (keyC k32).toArray) (res1 Try.results14 (res_key (b := s + 1) (o := 0) (by simp [go_sem]) rf.out)) rfl ?_
      exact gives rfl bf.out

set_option maxHeartbeats 4000000 in
theorem treeEmpty_walk (n : Nat) (hn : n ≤ 255) (W : World) : Calls Try.prog 7 #[.int .u8 n] W (Gives (.bool true) W) := by
  obtain ⟨k, hk, hm1, hm2⟩ : ∃ k : Nat, k < 32 ∧ (n : Int) % 32 = (k : Int) ∧ (n : Int).tmod 32 = (k : Int) := ⟨n % 32, Nat.mod_lt _ (by decide), by simp, by rw [Int.tmod_eq_emod_of_nonneg (by omega)]; simp⟩
  have hk1 : (k : Int) < 33 := by omega
  have hk2 : (k : Int) + 1 < 33 := by omega
  go_enter Try.func7, Try.ntmps7
  go_wp2_with fail
  refine (empty_any W).mono ?_
  rintro e w1 ⟨rfl, hb1⟩
  have hB2 := hb1.alloc hb1.size (.cells (a33C (empE 32)).toArray 40)
  have hE2 : A3 (w1.alloc (.cells (a33C (empE 32)).toArray 40)) w1.heap.size (empE 32) := heap_alloc_new w1 _
  replace hE2 := Box.mk hE2
  replace hB2 := Box.mk hB2
  replace hb1 := Box.mk hb1
  go_wp2_with fail
  generalize w1.alloc (.cells (a33C (empE 32)).toArray 40) = w2 at *
  obtain ⟨eb, heb⟩ : ∃ n, w1.heap.size = n := ⟨_, rfl⟩
  rw [heb] at hE2 ⊢
  replace heb := Box.mk heb
  have hat : ∀ i, i < 33 → (empE 32).l[i]? = some (emp i) := fun i hi => by rw [empE_at _ hi, if_pos (by omega)]
  have r1 := hE2.out.part (hat k (by omega))
  have r2 := hE2.out.part (hat (k + 1) (by omega))
  have r3 := hE2.out.part (hat 0 (by omega))
  have r4 := hE2.out.part (hat 32 (by omega))
  have he : emp (k + 1) = pairK (emp k) (emp k) := rfl
  have he0 : emp 0 = zeroKey := rfl
  rw [he0] at r3
  rw [he] at r2
  have hroot := fun w => root0_any w
  generalize emp 32 = k32 at *
  generalize emp k = kk at *
  have hall : ∀ w', SinceP w2 w' → (rowOf w' eb (k * 32) 32 = some (keyC kk) ∧ rowOf w' eb ((k + 1) * 32) 32 = some (keyC (pairK kk kk)) ∧ rowOf w' eb 0 32 = some (keyC zeroKey) ∧ rowOf w' eb 1024 32 = some (keyC k32) ∧ eb < w'.heap.size) := fun w' hw =>
    ⟨(rowOf_congr (hw.out.block eb hE2.out.lt) _ _).trans r1, (rowOf_congr (hw.out.block eb hE2.out.lt) _ _).trans r2, (rowOf_congr (hw.out.block eb hE2.out.lt) _ _).trans r3, (rowOf_congr (hw.out.block eb hE2.out.lt) _ _).trans r4, Nat.lt_of_lt_of_le hE2.out.lt hw.out.size⟩
  clear r1 r2 r3 r4
  replace he := Box.mk trivial
  replace he0 := Box.mk trivial
  replace hat := Box.mk trivial
  replace hroot := Box.mk hroot
  refine hreg_begin (S := SinceP w2) (by kernel_rfl) (SinceP.refl _).drew (fun hHeld => ?_)
  simp only [List.length_cons, List.length_nil, Nat.zero_add, Nat.reduceAdd, Array.replicate]
  refine hreg_take (i := 0) rfl (by kernel_rfl) (by kernel_rfl) (by kernel_rfl) hreg_panic (by rfl) hHeld ?_
  apply Exists.intro
  refine ⟨fun w' hw' => ?_, ?_⟩
  · have hf := hall w' hw'
    go_simp
    try go_bits
    exact yieldsV_mk rfl
  simp only [Act.put, List.setIfInBounds_toArray, List.set_cons_zero, List.set_cons_succ]
  refine hreg_take (i := 1) rfl (by kernel_rfl) (by kernel_rfl) (by kernel_rfl) hreg_panic (by rfl) hHeld ?_
  apply Exists.intro
  refine ⟨fun w' hw' => ?_, ?_⟩
  · have hf := hall w' hw'
    go_simp
    try go_bits
    exact yieldsV_mk rfl
  simp only [Act.put, List.setIfInBounds_toArray, List.set_cons_zero, List.set_cons_succ]
  refine hreg_take (i := 2) rfl (by kernel_rfl) (by kernel_rfl) (by kernel_rfl) hreg_panic (by rfl) hHeld ?_
  apply Exists.intro
  refine ⟨fun w' hw' => ?_, ?_⟩
  · have hf := hall w' hw'
    go_simp
    try go_bits
    exact yieldsV_mk rfl
  simp only [Act.put, List.setIfInBounds_toArray, List.set_cons_zero, List.set_cons_succ]
  refine hreg_take (i := 3) rfl (by kernel_rfl) (by kernel_rfl) (by kernel_rfl) hreg_panic (by rfl) hHeld ?_
  apply Exists.intro
  refine ⟨fun w' hw' => ?_, ?_⟩
  · have hf := hall w' hw'
    go_simp
    try go_bits
    exact yieldsV_mk rfl
  simp only [Act.put, List.setIfInBounds_toArray, List.set_cons_zero, List.set_cons_succ]
  refine hreg_take (i := 4) rfl (by kernel_rfl) (by kernel_rfl) (by kernel_rfl) hreg_panic (by rfl) hHeld ?_
  apply Exists.intro
  refine ⟨fun w' hw' => ?_, ?_⟩
  · have hf := hall w' hw'
    go_simp
    try go_bits
    exact yieldsV_mk rfl
  simp only [Act.put, List.setIfInBounds_toArray, List.set_cons_zero, List.set_cons_succ]
  refine hreg_take (i := 5) rfl (by kernel_rfl) (by kernel_rfl) (by kernel_rfl) hreg_panic (by rfl) hHeld ?_
  apply Exists.intro
  refine ⟨fun w' hw' => ?_, ?_⟩
  · have hf := hall w' hw'
    go_simp
    try go_bits
    exact yieldsV_mk rfl
  simp only [Act.put, List.setIfInBounds_toArray, List.set_cons_zero, List.set_cons_succ]
  refine hreg_take (i := 6) rfl (by kernel_rfl) (by kernel_rfl) (by kernel_rfl) hreg_panic (by rfl) hHeld ?_
  apply Exists.intro
  refine ⟨fun w' hw' => ?_, ?_⟩
  · have hf := hall w' hw'
    go_simp
    try go_bits
    exact yieldsV_mk rfl
  simp only [Act.put, List.setIfInBounds_toArray, List.set_cons_zero, List.set_cons_succ]
  refine hreg_take (i := 7) rfl (by kernel_rfl) (by kernel_rfl) (by kernel_rfl) hreg_panic (by rfl) hHeld ?_
  apply Exists.intro
  refine ⟨fun w' hw' => ?_, ?_⟩
  · have hf := hall w' hw'
    go_simp
    try go_bits
    exact yieldsV_mk rfl
  simp only [Act.put, List.setIfInBounds_toArray, List.set_cons_zero, List.set_cons_succ]
  refine hreg_take (i := 8) rfl (by kernel_rfl) (by kernel_rfl) (by kernel_rfl) hreg_panic (by rfl) hHeld ?_
  apply Exists.intro
  refine ⟨fun w' hw' => ?_, ?_⟩
  · have hf := hall w' hw'
    go_simp
    try go_bits
    exact yieldsV_mk rfl
  simp only [Act.put, List.setIfInBounds_toArray, List.set_cons_zero, List.set_cons_succ]
  refine hreg_take (i := 9) rfl (by kernel_rfl) (by kernel_rfl) (by kernel_rfl) hreg_panic (by rfl) hHeld ?_
  apply Exists.intro
  refine ⟨fun w' hw' => ?_, ?_⟩
  · have hf := hall w' hw'
    go_simp
    try go_bits
    exact yieldsV_mk rfl
  simp only [Act.put, List.setIfInBounds_toArray, List.set_cons_zero, List.set_cons_succ]
  refine wpAnyH_ready (rs := [10]) (by kernel_rfl) (by simp) ?_
  refine hreg_event (o := _) rfl (by rfl) (fun K hK => ?_) ?_
  · go_simp
    first
      | (go_at_call 12; refine (refPair_any kk kk _).mono ?_; rintro e wn ⟨rfl, hb⟩)
      | (go_at_call 14; refine (hroot.out _).mono ?_; rintro e wn ⟨rfl, hb⟩)
      | (go_at_call 10; refine (shown07_any _).mono ?_; rintro e wn ⟨rfl, hb⟩)
      | skip
    refine hK.out _ _ ?_ (fun hHeld' => ?_)
    · first
        | exact hHeld.next hb
        | exact hHeld.next hb
        | exact hHeld
        | exact hHeld.alloc _
        | exact hHeld.setCell (by simp <;> omega) _
        | exact (hHeld.alloc _).alloc _
    replace hHeld := hHeld'
    clear hHeld' hK K
    simp only [Act.put, List.setIfInBounds_toArray, List.set_cons_zero, List.set_cons_succ]
    refine hreg_take (i := 11) rfl (by kernel_rfl) (by kernel_rfl) (by kernel_rfl) hreg_panic (by rfl) hHeld ?_
    apply Exists.intro
    refine ⟨fun w' hw' => ?_, ?_⟩
    · have hf := hall w' hw'
      go_simp
      try go_bits
      exact yieldsV_mk rfl
    simp only [Act.put, List.setIfInBounds_toArray, List.set_cons_zero, List.set_cons_succ]
    refine hreg_take (i := 12) rfl (by kernel_rfl) (by kernel_rfl) (by kernel_rfl) hreg_panic (by rfl) hHeld ?_
    apply Exists.intro
    refine ⟨fun w' hw' => ?_, ?_⟩
    · have hf := hall w' hw'
      go_simp
      try go_bits
      exact yieldsV_mk rfl
    simp only [Act.put, List.setIfInBounds_toArray, List.set_cons_zero, List.set_cons_succ]
    refine hreg_take (i := 13) rfl (by kernel_rfl) (by kernel_rfl) (by kernel_rfl) hreg_panic (by rfl) hHeld ?_
    apply Exists.intro
    refine ⟨fun w' hw' => ?_, ?_⟩
    · have hf := hall w' hw'
      go_simp
      try go_bits
      exact yieldsV_mk rfl
    simp only [Act.put, List.setIfInBounds_toArray, List.set_cons_zero, List.set_cons_succ]
    refine hreg_take (i := 14) rfl (by kernel_rfl) (by kernel_rfl) (by kernel_rfl) hreg_panic (by rfl) hHeld ?_
    apply Exists.intro
    refine ⟨fun w' hw' => ?_, ?_⟩
    · have hf := hall w' hw'
      go_simp
      try go_bits
      exact yieldsV_mk rfl
    simp only [Act.put, List.setIfInBounds_toArray, List.set_cons_zero, List.set_cons_succ]
    refine hreg_take (i := 15) rfl (by kernel_rfl) (by kernel_rfl) (by kernel_rfl) hreg_panic (by rfl) hHeld ?_
    apply Exists.intro
    refine ⟨fun w' hw' => ?_, ?_⟩
    · have hf := hall w' hw'
      go_simp
      try go_bits
      exact yieldsV_mk rfl
    simp only [Act.put, List.setIfInBounds_toArray, List.set_cons_zero, List.set_cons_succ]
    refine hreg_take (i := 16) rfl (by kernel_rfl) (by kernel_rfl) (by kernel_rfl) hreg_panic (by rfl) hHeld ?_
    apply Exists.intro
    refine ⟨fun w' hw' => ?_, ?_⟩
    · have hf := hall w' hw'
      go_simp
      try go_bits
      exact yieldsV_mk rfl
    simp only [Act.put, List.setIfInBounds_toArray, List.set_cons_zero, List.set_cons_succ]
    refine hreg_take (i := 17) rfl (by kernel_rfl) (by kernel_rfl) (by kernel_rfl) hreg_panic (by rfl) hHeld ?_
    apply Exists.intro
    refine ⟨fun w' hw' => ?_, ?_⟩
    · have hf := hall w' hw'
      go_simp
      try go_bits
      exact yieldsV_mk rfl
    simp only [Act.put, List.setIfInBounds_toArray, List.set_cons_zero, List.set_cons_succ]
    refine hreg_take (i := 18) rfl (by kernel_rfl) (by kernel_rfl) (by kernel_rfl) hreg_panic (by rfl) hHeld ?_
    apply Exists.intro
    refine ⟨fun w' hw' => ?_, ?_⟩
    · have hf := hall w' hw'
      go_simp
      try go_bits
      exact yieldsV_mk rfl
    simp only [Act.put, List.setIfInBounds_toArray, List.set_cons_zero, List.set_cons_succ]
    refine hreg_take (i := 19) rfl (by kernel_rfl) (by kernel_rfl) (by kernel_rfl) hreg_panic (by rfl) hHeld ?_
    apply Exists.intro
    refine ⟨fun w' hw' => ?_, ?_⟩
    · have hf := hall w' hw'
      go_simp
      try go_bits
      exact yieldsV_mk rfl
    simp only [Act.put, List.setIfInBounds_toArray, List.set_cons_zero, List.set_cons_succ]
    refine hreg_take (i := 21) rfl (by kernel_rfl) (by kernel_rfl) (by kernel_rfl) hreg_panic (by rfl) hHeld ?_
    apply Exists.intro
    refine ⟨fun w' hw' => ?_, ?_⟩
    · have hf := hall w' hw'
      go_simp
      try go_bits
      exact yieldsV_mk rfl
    simp only [Act.put, List.setIfInBounds_toArray, List.set_cons_zero, List.set_cons_succ]
    refine hreg_take (i := 22) rfl (by kernel_rfl) (by kernel_rfl) (by kernel_rfl) hreg_panic (by rfl) hHeld ?_
    apply Exists.intro
    refine ⟨fun w' hw' => ?_, ?_⟩
    · have hf := hall w' hw'
      go_simp
      try go_bits
      exact yieldsV_mk rfl
    simp only [Act.put, List.setIfInBounds_toArray, List.set_cons_zero, List.set_cons_succ]
    refine wpAnyH_ready (rs := [20]) (by kernel_rfl) (by simp) ?_
    refine hreg_event (o := _) rfl (by rfl) (fun K hK => ?_) ?_
    · go_simp
      first
        | (go_at_call 12; refine (refPair_any kk kk _).mono ?_; rintro e wn ⟨rfl, hb⟩)
        | (go_at_call 14; refine (hroot.out _).mono ?_; rintro e wn ⟨rfl, hb⟩)
        | (go_at_call 10; refine (shown07_any _).mono ?_; rintro e wn ⟨rfl, hb⟩)
        | skip
      refine hK.out _ _ ?_ (fun hHeld' => ?_)
      · first
          | exact hHeld.next hb
          | exact hHeld.next hb
          | exact hHeld
          | exact hHeld.alloc _
          | exact hHeld.setCell (by simp <;> omega) _
          | exact (hHeld.alloc _).alloc _
      replace hHeld := hHeld'
      clear hHeld' hK K
      simp only [Act.put, List.setIfInBounds_toArray, List.set_cons_zero, List.set_cons_succ]
      refine hreg_take (i := 23) rfl (by kernel_rfl) (by kernel_rfl) (by kernel_rfl) hreg_panic (by rfl) hHeld ?_
      apply Exists.intro
      refine ⟨fun w' hw' => ?_, ?_⟩
      · have hf := hall w' hw'
        go_simp
        try go_bits
        exact yieldsV_mk rfl
      simp only [Act.put, List.setIfInBounds_toArray, List.set_cons_zero, List.set_cons_succ]
      refine hreg_take (i := 24) rfl (by kernel_rfl) (by kernel_rfl) (by kernel_rfl) hreg_panic (by rfl) hHeld ?_
      apply Exists.intro
      refine ⟨fun w' hw' => ?_, ?_⟩
      · have hf := hall w' hw'
        go_simp
        try go_bits
        exact yieldsV_mk rfl
      simp only [Act.put, List.setIfInBounds_toArray, List.set_cons_zero, List.set_cons_succ]
      refine hreg_take (i := 25) rfl (by kernel_rfl) (by kernel_rfl) (by kernel_rfl) hreg_panic (by rfl) hHeld ?_
      apply Exists.intro
      refine ⟨fun w' hw' => ?_, ?_⟩
      · have hf := hall w' hw'
        go_simp
        try go_bits
        exact yieldsV_mk rfl
      simp only [Act.put, List.setIfInBounds_toArray, List.set_cons_zero, List.set_cons_succ]
      refine wpAnyH_ready (rs := [26]) (by kernel_rfl) (by simp) ?_
      refine hreg_event (o := _) rfl (by rfl) (fun K hK => ?_) ?_
      · go_simp
        first
          | (go_at_call 12; refine (refPair_any kk kk _).mono ?_; rintro e wn ⟨rfl, hb⟩)
          | (go_at_call 14; refine (hroot.out _).mono ?_; rintro e wn ⟨rfl, hb⟩)
          | (go_at_call 10; refine (shown07_any _).mono ?_; rintro e wn ⟨rfl, hb⟩)
          | skip
        refine hK.out _ _ ?_ (fun hHeld' => ?_)
        · first
            | exact hHeld.next hb
            | exact hHeld.next hb
            | exact hHeld
            | exact hHeld.alloc _
            | exact hHeld.setCell (by simp <;> omega) _
            | exact (hHeld.alloc _).alloc _
        replace hHeld := hHeld'
        clear hHeld' hK K
        simp only [Act.put, List.setIfInBounds_toArray, List.set_cons_zero, List.set_cons_succ]
        refine hreg_take (i := 27) rfl (by kernel_rfl) (by kernel_rfl) (by kernel_rfl) hreg_panic (by rfl) hHeld ?_
        apply Exists.intro
        refine ⟨fun w' hw' => ?_, ?_⟩
        · have hf := hall w' hw'
          go_simp
          try go_bits
          exact yieldsV_mk rfl
        simp only [Act.put, List.setIfInBounds_toArray, List.set_cons_zero, List.set_cons_succ]
        refine hreg_take (i := 28) rfl (by kernel_rfl) (by kernel_rfl) (by kernel_rfl) hreg_panic (by rfl) hHeld ?_
        apply Exists.intro
        refine ⟨fun w' hw' => ?_, ?_⟩
        · have hf := hall w' hw'
          go_simp
          try go_bits
          exact yieldsV_mk rfl
        simp only [Act.put, List.setIfInBounds_toArray, List.set_cons_zero, List.set_cons_succ]
        refine wpAnyH_done (by kernel_rfl) ?_ _
        refine NoPanic.normal ?_
        have hfin := hB2.out.trans (hHeld.out.mono hB2.out.size)
        go_wp2
        go_ret
        exact gives_bool rfl hfin
      exact AllReadyH.nil
    exact AllReadyH.nil
  exact AllReadyH.nil
end Go.Proofs.Ytabikhmaiennpaa
