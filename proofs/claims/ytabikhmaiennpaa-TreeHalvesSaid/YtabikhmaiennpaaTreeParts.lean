/- TreeParts: a part is there for each bit of how many notes there are; two notes make one part. -/
import Derived.Test.YtabikhmaiennpaaTreeP
import Derived.Test.YtabikhmaiennpaaShaRef5
namespace Go.Proofs.Ytabikhmaiennpaa
open Go.RowKit
set_option linter.unusedVariables false
set_option linter.unusedSimpArgs false
set_option maxRecDepth 100000

theorem list32t {α : Type} (l : List α) (h : l.length = 32) : ∃ b0 b1 b2 b3 b4 b5 b6 b7 b8 b9 b10 b11 b12 b13 b14 b15 b16 b17 b18 b19 b20 b21 b22 b23 b24 b25 b26 b27 b28 b29 b30 b31, l = [b0, b1, b2, b3, b4, b5, b6, b7, b8, b9, b10, b11, b12, b13, b14, b15, b16, b17, b18, b19, b20, b21, b22, b23, b24, b25, b26, b27, b28, b29, b30, b31] := by
  match l, h with
  | [b0, b1, b2, b3, b4, b5, b6, b7, b8, b9, b10, b11, b12, b13, b14, b15, b16, b17, b18, b19, b20, b21, b22, b23, b24, b25, b26, b27, b28, b29, b30, b31], _ => exact ⟨b0, b1, b2, b3, b4, b5, b6, b7, b8, b9, b10, b11, b12, b13, b14, b15, b16, b17, b18, b19, b20, b21, b22, b23, b24, b25, b26, b27, b28, b29, b30, b31, rfl⟩

def twoKTo (P : Program) (w : World) (u v : Value) : Result Next := (do pure (.value (← Instr.buildSlice 33 2 #[(0, u), (1, v)])) : Sem Next).run P w
theorem two_key (ρ : Operand → Value) (dst : Option Tmp) (x y : Operand) (t : TypeId) (pos : String) (after : Array Edge) (guard : Option (Nat × Bool)) (w : World) :
    (execOp ρ ⟨dst, .buildSlice 33 2 #[(0, x), (1, y)], t, pos, after, guard⟩).run Try.prog w = twoKTo Try.prog w (ρ x) (ρ y) := by
  simp [execOp, twoKTo]
theorem run_twoK (a b : Key) (w : World) : (Instr.buildSlice 33 2 #[(0, Value.agg (keyC a).toArray), (1, Value.agg (keyC b).toArray)]).run Try.prog w = .ok (.slice (some ⟨w.heap.size, 0, none⟩) 2 2) (w.alloc (.cells (keyC a ++ keyC b).toArray 23)) := by
  obtain ⟨b0, b1, b2, b3, b4, b5, b6, b7, b8, b9, b10, b11, b12, b13, b14, b15, b16, b17, b18, b19, b20, b21, b22, b23, b24, b25, b26, b27, b28, b29, b30, b31, h⟩ := list32t (keyC a) (keyC_length a)
  obtain ⟨c0, c1, c2, c3, c4, c5, c6, c7, c8, c9, c10, c11, c12, c13, c14, c15, c16, c17, c18, c19, c20, c21, c22, c23, c24, c25, c26, c27, c28, c29, c30, c31, h2⟩ := list32t (keyC b) (keyC_length b)
  rw [h, h2]
  kernel_rfl
theorem keyC_two (a b : Key) : keyC a ++ keyC b = rows keyC [a, b] := by rw [rows_cons, rows_one]
@[go_sem] theorem twoKTo_lit (a b : Key) (w : World) : twoKTo Try.prog w (Value.agg (keyC a).toArray) (Value.agg (keyC b).toArray) = .ok (.value (.slice (some ⟨w.heap.size, 0, none⟩) 2 2)) (w.alloc (.cells (rows keyC [a, b]).toArray 23)) := by
  unfold twoKTo
  rw [Sem.run_bind, run_twoK, keyC_two]
  rfl
theorem bit_bool0 (c i : Nat) (hc : c < 4294967296) : (bits BinOp.and .u32 ((c : Int) / 2 ^ i) 1 == 0) = !bitB c i := by
  rw [bit_and c i hc]
  unfold bitB
  rcases Nat.mod_two_eq_zero_or_one (c / 2 ^ i) with h | h <;> rw [h] <;> rfl

attribute [local irreducible] Int.lt Int.le
attribute [local go_sem ↓] load_key store_key alloc_key build0_key eq_key load_a33 store_a33 alloc_a33 load_tree store_tree alloc_tree build0_tree build1_key two_key
attribute [local go_sem] rowOf_drew canPut_drew canPut_alloc_old canPut_alloc_new setCells_alloc_new treeC_g0
set_option maxHeartbeats 4000000 in
theorem treeParts_walk (a : Option Addr) (cap : Nat) (l : List Key) (ka kb : Key) (W : World) (h : KL W a cap l) : Calls Try.prog 5 #[.slice a l.length cap, .agg (keyC ka).toArray, .agg (keyC kb).toArray] W (Gives (.bool true) W) := by
  obtain ⟨q1, q2, hz, hB⟩ := two W (keyC ka).toArray (keyC kb).toArray 23 23
  have hA0 : KB _ W.heap.size ka := q1
  have hK0 : KB _ (W.heap.size + 1) kb := q2
  clear q1 q2
  have hcap := h.2.1
  replace hA0 := Box.mk hA0
  replace hK0 := Box.mk hK0
  replace hB := Box.mk hB
  replace hz := Box.mk hz
  by_cases h60 : (60 : Int) < l.length
  · replace h := Box.mk h
    go_enter Try.func5, Try.ntmps5
    go_wp2_with fail
    generalize (W.alloc (.cells (keyC ka).toArray 23)).alloc (.cells (keyC kb).toArray 23) = w0 at *
    refine (shown07_any w0).mono ?_
    rintro e w1 ⟨rfl, b1⟩
    have bf := hB.out.trans (b1.mono hB.out.size)
    go_wp2
    go_ret
    exact gives_bool rfl bf
  replace h := Box.mk h
  go_enter Try.func5, Try.ntmps5
  go_wp2_with fail
  generalize (W.alloc (.cells (keyC ka).toArray 23)).alloc (.cells (keyC kb).toArray 23) = w0 at *
  obtain ⟨s, hs⟩ : ∃ s, W.heap.size = s := ⟨_, rfl⟩
  rw [hs] at hA0 hK0 ⊢
  replace hs := Box.mk hs
  refine (shown07_any w0).mono ?_
  rintro e w1 ⟨rfl, b1⟩
  have hB1 := hB.out.trans (b1.mono hB.out.size)
  have hA1 := hA0.out.below b1
  have hK1 := hK0.out.below b1
  replace b1 := Box.mk b1
  replace hB1 := Box.mk hB1
  replace hA1 := Box.mk hA1
  replace hK1 := Box.mk hK1
  have hcl := puts_clean l zeroTree zero_clean (by show 0 + l.length < _; omega)
  have hcn := putsT_count l zeroTree
  have hof := fun w (hw : KL w a cap l) => of_any a cap l w hw (by omega)
  obtain ⟨t, ht⟩ : ∃ t, putsT zeroTree l = t := ⟨_, rfl⟩
  rw [ht] at hcl hcn hof
  have hc32 : t.count < 4294967296 := by rw [hcn]; show 0 + l.length < _; omega
  replace ht := Box.mk ht
  replace hcn := Box.mk hcn
  replace hcl := Box.mk hcl
  replace hof := Box.mk hof
  go_wp2_with fail
  refine (hof.out w1 (h.out.below hB1.out)).mono ?_
  rintro e w2 ⟨rfl, b2⟩
  have b3 := b2.alloc b2.size (.cells (treeC t).toArray 28)
  have hT3 : TB (w2.alloc (.cells (treeC t).toArray 28)) w2.heap.size t := heap_alloc_new w2 _
  have hB3 := hB1.out.trans (b3.mono hB1.out.size)
  have hA3 := hA1.out.below b3
  have hK3 := hK1.out.below b3
  replace b2 := Box.mk b2
  replace b3 := Box.mk b3
  replace hT3 := Box.mk hT3
  replace hB3 := Box.mk hB3
  replace hA3 := Box.mk hA3
  replace hK3 := Box.mk hK3
  go_wp2_with fail
  generalize w2.alloc (.cells (treeC t).toArray 28) = w3 at *
  obtain ⟨tb, htb⟩ : ∃ n, w2.heap.size = n := ⟨_, rfl⟩
  rw [htb] at hT3 ⊢
  replace htb := Box.mk htb
  go_loopw [8] (fun i wr => wr = w3 ∧ ∃ j : Nat, j ≤ 32 ∧ i = .int .i64 j) (fun i _ => 32 - (intOf i).toNat)
  case atStart => exact ⟨rfl, 0, Nat.zero_le _, rfl⟩
  case round =>
    obtain ⟨rfl, j, hj, rfl⟩ := hrel
    by_cases hj2 : j < 32
    · have hjl : (j : Int) < 32 := by omega
      obtain ⟨c1, c2⟩ := hT3.out.count
      have l1 := hT3.out.lt
      have hb0 := bit_bool0 t.count j hc32
      cases hbt : bitB t.count j with
      | true =>
        rw [hbt] at hb0
        replace hbt := Box.mk hbt
        go_wp2
        go_roundw
        case rel => exact ⟨by trivial, j + 1, by omega, by go_num⟩
        case measure => simp [intOf]; omega
      | false =>
        rw [hbt] at hb0
        have r1 := hT3.out.part (hcl.out j hj2 hbt)
        replace hbt := Box.mk hbt
        go_wp2
        go_roundw
        case rel => exact ⟨by trivial, j + 1, by omega, by go_num⟩
        case measure => simp [intOf]; omega
    · obtain rfl : j = 32 := by omega
      have r1 := hA3.out.row
      have r2 := hK3.out.row
      have l1 := hA3.out.lt
      have l2 := hK3.out.lt
      obtain ⟨n1, n2, n3⟩ := two_notes ka kb
      have hof2 := fun w (hw : KL w (some ⟨wr.heap.size, 0, none⟩) 2 [ka, kb]) => of_any (some ⟨wr.heap.size, 0, none⟩) 2 [ka, kb] w hw (by simp)
      obtain ⟨u, hu⟩ : ∃ t, putsT zeroTree [ka, kb] = t := ⟨_, rfl⟩
      rw [hu] at n1 n2 n3 hof2
      have hS : KL (wr.alloc (.cells (rows keyC [ka, kb]).toArray 23)) (some ⟨wr.heap.size, 0, none⟩) 2 [ka, kb] := SL.new keyC_length wr [ka, kb] _ _ rfl (by unfold maxLen; simp)
      have b4 : Below wr.heap.size wr (wr.alloc (.cells (rows keyC [ka, kb]).toArray 23)) := (Below.refl _ _).alloc (Nat.le_refl _) _
      have hcall := hof2 _ hS
      replace hu := Box.mk hu
      replace n1 := Box.mk n1
      replace n2 := Box.mk n2
      replace n3 := Box.mk n3
      replace hof2 := Box.mk trivial
      replace hS := Box.mk hS
      replace b4 := Box.mk b4
      replace hcall := Box.mk hcall
      go_wp2_with fail
      refine hcall.out.mono ?_
      rintro e w5 ⟨rfl, b5⟩
      have b6 := (b4.out.trans (b5.mono b4.out.size))
      have b7 := b6.alloc b6.size (.cells (treeC u).toArray 28)
      have hU7 : TB (w5.alloc (.cells (treeC u).toArray 28)) w5.heap.size u := heap_alloc_new w5 _
      have hB7 := hB3.out.trans (b7.mono hB3.out.size)
      have hA7 := hA3.out.below b7
      have hK7 := hK3.out.below b7
      clear r1 r2 l1 l2
      replace b5 := Box.mk b5
      replace b6 := Box.mk b6
      replace b7 := Box.mk b7
      replace hU7 := Box.mk hU7
      replace hB7 := Box.mk hB7
      replace hA7 := Box.mk hA7
      replace hK7 := Box.mk hK7
      go_wp2_with fail
      generalize w5.alloc (.cells (treeC u).toArray 28) = w7 at *
      obtain ⟨ub, hub⟩ : ∃ n, w5.heap.size = n := ⟨_, rfl⟩
      rw [hub] at hU7 ⊢
      replace hub := Box.mk hub
      obtain ⟨c1, c2⟩ := hU7.out.count
      rw [n1.out] at c1
      have p1 := hU7.out.part n2.out
      have p0 := hU7.out.part n3.out
      have ra := hA7.out.row
      have rb := hK7.out.row
      have lu := hU7.out.lt
      have la := hA7.out.lt
      have lb := hK7.out.lt
      have hall : ∀ w', SinceP w7 w' → (rowOf w' ub 33 32 = some (keyC (pairK ka kb)) ∧ rowOf w' ub 1 32 = some (keyC zeroKey) ∧ w'.cell? ⟨ub, 0, none⟩ = some (.int .u32 2) ∧ rowOf w' s 0 32 = some (keyC ka) ∧ rowOf w' (s + 1) 0 32 = some (keyC kb) ∧ ub < w'.heap.size ∧ s < w'.heap.size ∧ s + 1 < w'.heap.size) := fun w' hw => by
        have hzz := hw.out.size
        exact ⟨(rowOf_congr (hw.out.block ub lu) _ _).trans p1, (rowOf_congr (hw.out.block ub lu) _ _).trans p0, (hw.out.cell (p := ⟨ub, 0, none⟩) lu).trans c1, (rowOf_congr (hw.out.block s la) _ _).trans ra, (rowOf_congr (hw.out.block (s + 1) lb) _ _).trans rb, by omega, by omega, by omega⟩
      clear c1 c2 p1 p0 ra rb lu la lb
      refine hreg_begin (S := SinceP w7) (by kernel_rfl) (SinceP.refl _).drew (fun hHeld => ?_)
      simp only [List.length_cons, List.length_nil, Nat.zero_add, Nat.reduceAdd, Array.replicate]
      refine hreg_take (i := 0) rfl (by kernel_rfl) (by kernel_rfl) (by kernel_rfl) hreg_panic (by rfl) hHeld ?_
      apply Exists.intro
      refine ⟨fun w' hw' => ?_, ?_⟩
      · have hf := hall w' hw'
        go_simp
        try go_bits
        exact yieldsV_mk rfl
      simp only [Act.put, List.setIfInBounds_toArray, List.set_cons_zero, List.set_cons_succ]
      refine hreg_take (i := 1) rfl (by kernel_rfl) (by kernel_rfl) (by kernel_rfl) hreg_panic (by rfl) hHeld ?_
      apply Exists.intro
      refine ⟨fun w' hw' => ?_, ?_⟩
      · have hf := hall w' hw'
        go_simp
        try go_bits
        exact yieldsV_mk rfl
      simp only [Act.put, List.setIfInBounds_toArray, List.set_cons_zero, List.set_cons_succ]
      refine hreg_take (i := 2) rfl (by kernel_rfl) (by kernel_rfl) (by kernel_rfl) hreg_panic (by rfl) hHeld ?_
      apply Exists.intro
      refine ⟨fun w' hw' => ?_, ?_⟩
      · have hf := hall w' hw'
        go_simp
        try go_bits
        exact yieldsV_mk rfl
      simp only [Act.put, List.setIfInBounds_toArray, List.set_cons_zero, List.set_cons_succ]
      refine hreg_take (i := 3) rfl (by kernel_rfl) (by kernel_rfl) (by kernel_rfl) hreg_panic (by rfl) hHeld ?_
      apply Exists.intro
      refine ⟨fun w' hw' => ?_, ?_⟩
      · have hf := hall w' hw'
        go_simp
        try go_bits
        exact yieldsV_mk rfl
      simp only [Act.put, List.setIfInBounds_toArray, List.set_cons_zero, List.set_cons_succ]
      refine hreg_take (i := 4) rfl (by kernel_rfl) (by kernel_rfl) (by kernel_rfl) hreg_panic (by rfl) hHeld ?_
      apply Exists.intro
      refine ⟨fun w' hw' => ?_, ?_⟩
      · have hf := hall w' hw'
        go_simp
        try go_bits
        exact yieldsV_mk rfl
      simp only [Act.put, List.setIfInBounds_toArray, List.set_cons_zero, List.set_cons_succ]
      refine wpAnyH_ready (rs := [5]) (by kernel_rfl) (by simp) ?_
      refine hreg_event (o := _) rfl (by rfl) (fun K hK => ?_) ?_
      · go_simp
        first
          | (go_at_call 12; refine (refPair_any ka kb _).mono ?_; rintro e wn ⟨rfl, hb⟩)
          | skip
        refine hK.out _ _ ?_ (fun hHeld' => ?_)
        · first
            | exact hHeld.next hb
            | exact hHeld.next hb
            | exact hHeld
            | exact hHeld.alloc _
            | exact hHeld.setCell (by simp <;> omega) _
            | exact (hHeld.alloc _).alloc _
        replace hHeld := hHeld'
        clear hHeld' hK K
        simp only [Act.put, List.setIfInBounds_toArray, List.set_cons_zero, List.set_cons_succ]
        refine hreg_take (i := 6) rfl (by kernel_rfl) (by kernel_rfl) (by kernel_rfl) hreg_panic (by rfl) hHeld ?_
        apply Exists.intro
        refine ⟨fun w' hw' => ?_, ?_⟩
        · have hf := hall w' hw'
          go_simp
          try go_bits
          exact yieldsV_mk rfl
        simp only [Act.put, List.setIfInBounds_toArray, List.set_cons_zero, List.set_cons_succ]
        refine hreg_take (i := 7) rfl (by kernel_rfl) (by kernel_rfl) (by kernel_rfl) hreg_panic (by rfl) hHeld ?_
        apply Exists.intro
        refine ⟨fun w' hw' => ?_, ?_⟩
        · have hf := hall w' hw'
          go_simp
          try go_bits
          exact yieldsV_mk rfl
        simp only [Act.put, List.setIfInBounds_toArray, List.set_cons_zero, List.set_cons_succ]
        refine hreg_take (i := 8) rfl (by kernel_rfl) (by kernel_rfl) (by kernel_rfl) hreg_panic (by rfl) hHeld ?_
        apply Exists.intro
        refine ⟨fun w' hw' => ?_, ?_⟩
        · have hf := hall w' hw'
          go_simp
          try go_bits
          exact yieldsV_mk rfl
        simp only [Act.put, List.setIfInBounds_toArray, List.set_cons_zero, List.set_cons_succ]
        refine hreg_take (i := 9) rfl (by kernel_rfl) (by kernel_rfl) (by kernel_rfl) hreg_panic (by rfl) hHeld ?_
        apply Exists.intro
        refine ⟨fun w' hw' => ?_, ?_⟩
        · have hf := hall w' hw'
          go_simp
          try go_bits
          exact yieldsV_mk rfl
        simp only [Act.put, List.setIfInBounds_toArray, List.set_cons_zero, List.set_cons_succ]
        refine hreg_take (i := 10) rfl (by kernel_rfl) (by kernel_rfl) (by kernel_rfl) hreg_panic (by rfl) hHeld ?_
        apply Exists.intro
        refine ⟨fun w' hw' => ?_, ?_⟩
        · have hf := hall w' hw'
          go_simp
          try go_bits
          exact yieldsV_mk rfl
        simp only [Act.put, List.setIfInBounds_toArray, List.set_cons_zero, List.set_cons_succ]
        refine hreg_take (i := 11) rfl (by kernel_rfl) (by kernel_rfl) (by kernel_rfl) hreg_panic (by rfl) hHeld ?_
        apply Exists.intro
        refine ⟨fun w' hw' => ?_, ?_⟩
        · have hf := hall w' hw'
          go_simp
          try go_bits
          exact yieldsV_mk rfl
        simp only [Act.put, List.setIfInBounds_toArray, List.set_cons_zero, List.set_cons_succ]
        refine hreg_take (i := 12) rfl (by kernel_rfl) (by kernel_rfl) (by kernel_rfl) hreg_panic (by rfl) hHeld ?_
        apply Exists.intro
        refine ⟨fun w' hw' => ?_, ?_⟩
        · have hf := hall w' hw'
          go_simp
          try go_bits
          exact yieldsV_mk rfl
        simp only [Act.put, List.setIfInBounds_toArray, List.set_cons_zero, List.set_cons_succ]
        refine hreg_take (i := 13) rfl (by kernel_rfl) (by kernel_rfl) (by kernel_rfl) hreg_panic (by rfl) hHeld ?_
        apply Exists.intro
        refine ⟨fun w' hw' => ?_, ?_⟩
        · have hf := hall w' hw'
          go_simp
          try go_bits
          exact yieldsV_mk rfl
        simp only [Act.put, List.setIfInBounds_toArray, List.set_cons_zero, List.set_cons_succ]
        refine hreg_take (i := 14) rfl (by kernel_rfl) (by kernel_rfl) (by kernel_rfl) hreg_panic (by rfl) hHeld ?_
        apply Exists.intro
        refine ⟨fun w' hw' => ?_, ?_⟩
        · have hf := hall w' hw'
          go_simp
          try go_bits
          exact yieldsV_mk rfl
        simp only [Act.put, List.setIfInBounds_toArray, List.set_cons_zero, List.set_cons_succ]
        refine hreg_take (i := 15) rfl (by kernel_rfl) (by kernel_rfl) (by kernel_rfl) hreg_panic (by rfl) hHeld ?_
        apply Exists.intro
        refine ⟨fun w' hw' => ?_, ?_⟩
        · have hf := hall w' hw'
          go_simp
          try go_bits
          exact yieldsV_mk rfl
        simp only [Act.put, List.setIfInBounds_toArray, List.set_cons_zero, List.set_cons_succ]
        refine hreg_take (i := 16) rfl (by kernel_rfl) (by kernel_rfl) (by kernel_rfl) hreg_panic (by rfl) hHeld ?_
        apply Exists.intro
        refine ⟨fun w' hw' => ?_, ?_⟩
        · have hf := hall w' hw'
          go_simp
          try go_bits
          exact yieldsV_mk rfl
        simp only [Act.put, List.setIfInBounds_toArray, List.set_cons_zero, List.set_cons_succ]
        refine hreg_take (i := 17) rfl (by kernel_rfl) (by kernel_rfl) (by kernel_rfl) hreg_panic (by rfl) hHeld ?_
        apply Exists.intro
        refine ⟨fun w' hw' => ?_, ?_⟩
        · have hf := hall w' hw'
          go_simp
          try go_bits
          exact yieldsV_mk rfl
        simp only [Act.put, List.setIfInBounds_toArray, List.set_cons_zero, List.set_cons_succ]
        refine hreg_take (i := 18) rfl (by kernel_rfl) (by kernel_rfl) (by kernel_rfl) hreg_panic (by rfl) hHeld ?_
        apply Exists.intro
        refine ⟨fun w' hw' => ?_, ?_⟩
        · have hf := hall w' hw'
          go_simp
          try go_bits
          exact yieldsV_mk rfl
        simp only [Act.put, List.setIfInBounds_toArray, List.set_cons_zero, List.set_cons_succ]
        refine hreg_take (i := 19) rfl (by kernel_rfl) (by kernel_rfl) (by kernel_rfl) hreg_panic (by rfl) hHeld ?_
        apply Exists.intro
        refine ⟨fun w' hw' => ?_, ?_⟩
        · have hf := hall w' hw'
          go_simp
          try go_bits
          exact yieldsV_mk rfl
        simp only [Act.put, List.setIfInBounds_toArray, List.set_cons_zero, List.set_cons_succ]
        refine wpAnyH_done (by kernel_rfl) ?_ _
        refine NoPanic.normal ?_
        have hfin := hB7.out.trans (hHeld.out.mono hB7.out.size)
        go_wp2
        go_ret
        exact gives_bool rfl hfin
      exact AllReadyH.nil
end Go.Proofs.Ytabikhmaiennpaa
