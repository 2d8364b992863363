/- Layer 15: what is good is all good, whatever stands behind it. -/
import Derived.Test.YtpgaibihfplhcaaOracle2
import Derived.Test.YtpgaibihfplhcaaKeys3
namespace Go.Proofs.Ytpgaibihfplhcaa
open Go.RowKit
set_option linter.unusedVariables false
set_option linter.unusedSimpArgs false
attribute [local irreducible] Int.lt Int.le
attribute [local go_sem ↓] load_key store_key alloc_key build0_key one_key eq_key build1_key load_ver store_ver alloc_ver one_ver make_ver append_ver build3_ver eq_ver
attribute [local go_sem] rowOf_drew rowOf_alloc_old rowOf_alloc_new canPut_drew canPut_alloc_old canPut_alloc_new setCells_alloc_new

/-- A verdict of which only two parts are written out. -/
def build2vTo (P : Program) (t : TypeId) (w : World) (u v : Value) : Result Next := (do pure (.value (← Instr.build t #[(0, u), (1, v)])) : Sem Next).run P w
theorem build2_ver (ρ : Operand → Value) (dst : Option Tmp) (x y : Operand) (t : TypeId) (pos : String) (after : Array Edge) (guard : Option (Nat × Bool)) (w : World) :
    (execOp ρ ⟨dst, .build 40 #[(0, x), (1, y)], t, pos, after, guard⟩).run Try.prog w = build2vTo Try.prog 40 w (ρ x) (ρ y) := by simp [execOp, build2vTo]
theorem run_build2v (k : Key) (i : Int) (w : World) : (Instr.build 40 #[(0, Value.agg (keyC k).toArray), (1, Value.int .i64 i)]).run Try.prog w = .ok (.agg (verC ⟨k, i, false⟩).toArray) w := by
  obtain ⟨b0, b1, b2, b3, b4, b5, b6, b7, b8, b9, b10, b11, b12, b13, b14, b15, b16, b17, b18, b19, b20, b21, b22, b23, b24, b25, b26, b27, b28, b29, b30, b31, h⟩ := list32 (keyC k) (keyC_length k)
  unfold verC
  show (Instr.build 40 #[(0, Value.agg (keyC k).toArray), (1, Value.int .i64 i)]).run Try.prog w = .ok (Value.agg (keyC k ++ [Value.int .i64 i, Value.bool false]).toArray) w
  rw [h]
  kernel_rfl
@[go_sem] theorem build2vTo_ver (k : Key) (i : Int) (w : World) : build2vTo Try.prog 40 w (.agg (keyC k).toArray) (.int .i64 i) = .ok (.value (.agg (verC ⟨k, i, false⟩).toArray)) w := by
  unfold build2vTo
  rw [Sem.run_bind, run_build2v]
  rfl
attribute [local go_sem ↓] build2_ver

theorem look_both (l : List Verd) (k : Key) (m i : Nat) : lookL (goodL k m ++ l) k i = if i < m then true else lookL l k i := by
  rw [lookL_append, goodL_any, lookL_good]
  by_cases h : i < m <;> simp [h]
theorem all_both (l : List Verd) (k : Key) (m : Nat) : allB (goodL k m ++ l) k m = true := allB_true fun i hi => by rw [look_both, if_pos hi]
theorem all_more (l : List Verd) (k : Key) (m : Nat) : allB (goodL k m ++ l) k ((m : Int) + 1) = lookL l k m := by
  have e : ((m : Int) + 1) = ((m + 1 : Nat) : Int) := by omega
  rw [e]
  cases h : lookL l k m with
  | false => exact allB_false (i := m) (by omega) (by rw [look_both, if_neg (by omega)]; exact h)
  | true =>
    refine allB_true fun i hi => ?_
    rw [look_both]
    by_cases h2 : i < m
    · rw [if_pos h2]
    · obtain rfl : i = m := by omega
      rw [if_neg (by omega)]
      exact h
theorem all_good_more (k : Key) (m : Nat) : allB (goodL k m) k ((m : Int) + 1) = false := by
  have := all_more [] k m
  rw [List.append_nil] at this
  rw [this]; rfl
theorem all_bad {l : List Verd} {k : Key} {m q : Nat} (hq : q < m) : allB (⟨k, q, false⟩ :: l) k m = false := allB_false hq (by rw [lookL_cons, hitB_at]; simp)
theorem all_below {l : List Verd} {k : Key} {m q : Nat} (hq : q < m) (h : allB l k m = true) : allB (⟨k, q, false⟩ :: l) k q = true := by
  refine allB_true fun i hi => ?_
  have h1 : ((q : Int) == (i : Int)) = false := by simp; omega
  rw [lookL_cons, hitB_at, h1]
  cases e : lookL l k i with
  | true => rfl
  | false => rw [allB_false (m := m) (by omega) e] at h; cases h

set_option maxHeartbeats 300000 in
theorem oracleGood_walk (a : Option Addr) (n c : Nat) (l : List Verd) (k : Key) (m b : Nat) (W : World) (h : VL W a n c l) (hm : m ≤ 255) (hb : b ≤ 255) : Calls Try.prog 6 #[.slice a n c, .agg (keyC k).toArray, .int .u8 m, .int .u8 b] W (LawEnd W) := by
  have hl := Box.mk h.1
  have H := Box.mk h
  clear h
  by_cases hn : 200 < n
  · go_enter Try.func6, Try.ntmps6
    go_wp2_with fail
    refine (shown15 _).mono ?_
    rintro e w2 ⟨rfl, hb2⟩
    go_wp2
    go_ret
    exact gives_bool rfl (Below.of hb2 (by simp) ((Below.refl _ _).alloc (by simp) _))
  · go_enter Try.func6, Try.ntmps6
    go_wp2_with fail
    have S0 := ((Held.start W 32).row (keyC k) 23 (keyC_length k))
    refine (shown15 _).mono ?_
    rintro e w1 ⟨rfl, hb1⟩
    try clear hcells hrows
    replace S0 := Held.to S0 hb1
    have hcells := Held.cells S0
    have hrows := Held.rows S0
    simp only [CF, RF, World.size_alloc] at hcells hrows
    go_wp2_with fail
    refine (good_any k m _ (by omega)).mono ?_
    rintro e w2 ⟨ag, ng, cg, rfl, hG, hng, hb2, hfg⟩
    try clear hcells hrows
    replace S0 := Held.to S0 hb2
    have hcells := Held.cells S0
    have hrows := Held.rows S0
    simp only [CF, RF, World.size_alloc] at hcells hrows
    rw [goodL_length] at hng
    subst hng
    have hGl := hG.1
    replace hG := Box.mk hG
    replace hGl := Box.mk hGl
    go_wp2_with fail
    have hrk : rowOf w2 W.heap.size 0 32 = some (keyC k) := by have := S0.rows; exact this.1.2
    have hlk : W.heap.size < w2.heap.size := by have := S0.rows; exact this.1.1
    have hBW2 := S0.below
    clear hcells hrows S0
    have hO := Own.empty verC 34 40 w2 w2.heap.size w2.heap.size rfl (Nat.le_refl _)
    have hB2 : Below w2.heap.size w2 (w2.alloc (.cells #[] 40)) := (Below.refl _ _).alloc (Nat.le_refl _) _
    have hLw2 : VL w2 a n c l := H.out.below hBW2
    obtain ⟨u3, n3, c3, w3, hap3, hown3, hb3, hs3, hn3⟩ := app_v (ty := 36) hO hB2.size ag ng cg (goodL k ng) (hG.out.below hB2) (by rw [goodL_length]; simp; omega)
    rw [hap3]
    rw [List.nil_append] at hown3
    have hB3 : Below w2.heap.size w2 w3 := hB2.trans hb3
    replace hap3 := Box.mk hap3
    replace hn3 := Box.mk hn3
    go_wp2_with fail
    obtain ⟨u4, n4, c4, w4, hap4, hown4, hb4, hs4, hn4⟩ := app_v (ty := 36) hown3 hB3.size a n c l (hLw2.below hB3) (by rw [goodL_length, ← hl.out]; omega)
    rw [hap4]
    replace hap4 := Box.mk hap4
    have hB4 : Below w2.heap.size w2 w4 := hB3.trans hb4
    have hA : VL w4 u4 n4 c4 (goodL k ng ++ l) := hown4.sl'.2
    have hn4' : n4 = ng + n := by rw [hn4, goodL_length, ← hl.out]
    clear hn3 hn4 hown3 hown4 hO hB2
    have hG4 : VL w4 ag ng cg (goodL k ng) := hG.out.below hB4
    have hL4 : VL w4 a n c l := hLw2.below hB4
    have hrk4 : rowOf w4 W.heap.size 0 32 = some (keyC k) := by rw [rowOf_congr (hB4.block _ hlk)]; exact hrk
    have hlk4 : W.heap.size < w4.heap.size := by have := hB4.size; omega
    have hBW4 : Below W.heap.size W w4 := hBW2.trans (hB4.mono (by omega))
    have hn4c : n4 ≤ 100000 := by omega
    have e1 := all_both l k ng
    have e2 := all_good_more k ng
    have e3 := all_more l k ng
    replace hA := Box.mk hA
    replace hG4 := Box.mk hG4
    replace hL4 := Box.mk hL4
    replace hn4' := Box.mk hn4'
    clear hG hLw2 hrk hB3 hB4
    obtain ⟨tl, htl⟩ : ∃ t, t = lookL l k ng := ⟨_, rfl⟩
    rw [← htl] at e3
    have hng1 : (ng : Int) ≤ 255 := by omega
    have A1 := fun (w' : World) (h : Since w4 w') => all_any u4 n4 c4 (goodL k ng ++ l) k ng w' (hA.out.below h) hn4c (by omega)
    have A2 := fun (w' : World) (h : Since w4 w') => all_any ag ng cg (goodL k ng) k ((ng : Int) + 1) w' (hG4.out.below h) (by omega) (by omega)
    have A3 := fun (w' : World) (h : Since w4 w') => all_any u4 n4 c4 (goodL k ng ++ l) k ((ng : Int) + 1) w' (hA.out.below h) hn4c (by omega)
    have A4 := fun (w' : World) (h : Since w4 w') => look_any a n c l k ng w' (hL4.out.below h) (by omega)
    simp only [e1] at A1
    simp only [e2] at A2
    simp only [e3] at A3
    simp only [← htl] at A4
    replace A1 := Box.mk A1
    replace A2 := Box.mk A2
    replace A3 := Box.mk A3
    replace A4 := Box.mk A4
    replace e1 := Box.mk e1
    replace e2 := Box.mk e2
    replace e3 := Box.mk e3
    replace htl := Box.mk htl
    go_wp2_with fail
    (refine region_since (by kernel_rfl) (by kernel_rfl) ?_)
    repeat (first
      | (refine wpQuiet_goff rfl rfl rfl rfl ?_; simp only [Act.put, List.setIfInBounds_toArray, List.set_cons_succ, List.set_cons_zero])
      | (first
           | refine wpQuiet_free rfl ?_
           | refine wpQuiet_gon rfl rfl rfl rfl ?_
         apply Exists.intro
         refine ⟨fun w' hw' => ?_, ?_⟩
         · (obtain ⟨hc', hr', hs'⟩ := since_facts hw'
            unfold Oper.quietAt
            go_simp
            try go_bits
            first
              | exact quietUpon_value rfl
              | (apply quietUpon_enter
                 first
                 | (go_at_call_of 20 (Value.slice ag ng cg); exact calls_since hw' (A2.out _ hw'))
                 | (go_at_call_of 20 (Value.int IntKind.i64 (ng : Int)); exact calls_since hw' (A1.out _ hw'))
                 | (go_at_call 20; exact calls_since hw' (A3.out _ hw'))
                 | (go_at_call 21; exact calls_since hw' (A4.out _ hw'))))
         simp only [Act.put, List.setIfInBounds_toArray, List.set_cons_succ, List.set_cons_zero]))
    first
      | refine wpQuiet_nil ?_
      | fail "QUIET stopped"
    intro wq hwq'
    obtain ⟨wz, hwz⟩ : ∃ wz, wz = wq := ⟨_, rfl⟩
    subst hwz
    have hbq : Below W.heap.size W wz := since_next hBW4 hwq'
    have kq : rowOf wz W.heap.size 0 32 = some (keyC k) := by rw [rowOf_congr (Below.block hwq' _ hlk4)]; exact hrk4
    have lq : W.heap.size < wz.heap.size := by have := Below.size hwq'; omega
    have hAq : VL wz u4 n4 c4 (goodL k ng ++ l) := hA.out.below hwq'
    replace hAq := Box.mk hAq
    have hwz' := hwq'
    clear hwq' A1 A2 A3 A4
    by_cases hz : ng = 0
    · subst hz
      go_wp2
      go_ret
      exact gives_bool rfl hbq
    · have hz' : ((ng : Int) == 0) = false := by simp; omega
      have hz2 : ¬ (ng : Int) = 0 := by omega
      obtain ⟨q, hq, hq1, hq2⟩ : ∃ q : Nat, q < ng ∧ (b : Int) % (ng : Int) = (q : Int) ∧ (b : Int).tmod (ng : Int) = (q : Int) := ⟨b % ng, Nat.mod_lt _ (by omega), by simp, by rw [Int.tmod_eq_emod_of_nonneg (by omega)]; simp⟩
      have hbad := Box.mk (all_bad (l := goodL k ng ++ l) (k := k) hq)
      have hbel := Box.mk (all_below (k := k) hq e1.out)
      replace hq := Box.mk hq
      have hall : ∀ w', SinceP wz w' → (rowOf w' W.heap.size 0 32 = some (keyC k) ∧ W.heap.size < w'.heap.size) := fun w' h => ⟨by rw [rowOf_congr (h.out.block _ lq)]; exact kq, by have := h.out.size; omega⟩
      have hBn : Below wz.heap.size wz (wz.alloc (.cells (verC (⟨k, q, false⟩ : Verd)).toArray 40)).drew := ((Below.refl _ _).alloc (Nat.le_refl _) _).drew
      have hOn : VOwn (wz.alloc (.cells (verC (⟨k, q, false⟩ : Verd)).toArray 40)).drew wz.heap.size (.slice (some ⟨wz.heap.size, 0, none⟩) 1 1) [(⟨k, q, false⟩ : Verd)] := by
        have := Own.new verC_length wz wz.heap.size [(⟨k, q, false⟩ : Verd)] 40 (Nat.le_refl _) (by unfold maxLen; simp)
        rw [rows_one] at this
        exact this.congr fun _ _ _ => rfl
      obtain ⟨u5, n5, c5, w5, hap5, hown5, hb5, hs5, hn5⟩ := app_v (ty := 36) hOn hBn.size u4 n4 c4 (goodL k ng ++ l) (hAq.out.below hBn) (by have := hAq.out.1; simp only [List.length_singleton]; omega)
      have hn5c : n5 ≤ 100000 := by have := hAq.out.1; have := hn4'.out; simp only [List.length_singleton] at hn5; omega
      replace hn5 := Box.mk hn5
      replace hap5 := Box.mk hap5
      have hF5 : VL w5 u5 n5 c5 (⟨k, q, false⟩ :: (goodL k ng ++ l)) := hown5.sl'.2
      have hB5 : Below wz.heap.size wz w5 := hBn.trans hb5
      replace hF5 := Box.mk hF5
      clear hOn hown5
      go_wp2_with fail
      refine hreg_begin (S := SinceP wz) (by kernel_rfl) (SinceP.refl _).drew (fun hHeld => ?_)
      simp only [List.length_cons, List.length_nil, Nat.zero_add, Nat.reduceAdd, Array.replicate]
      refine hreg_take (i := 0) rfl (by kernel_rfl) (by kernel_rfl) (by kernel_rfl) hreg_panic (by rfl) hHeld ?_
      apply Exists.intro
      refine ⟨fun w' hw' => ?_, ?_⟩
      · have hf := hall w' hw'
        go_simp
        try go_bits
        exact yieldsV_mk rfl
      simp only [Act.put, List.setIfInBounds_toArray, List.set_cons_zero, List.set_cons_succ]
      refine hreg_take (i := 1) rfl (by kernel_rfl) (by kernel_rfl) (by kernel_rfl) hreg_panic (by rfl) hHeld ?_
      apply Exists.intro
      refine ⟨fun w' hw' => ?_, ?_⟩
      · have hf := hall w' hw'
        go_simp
        try go_bits
        exact yieldsV_mk rfl
      simp only [Act.put, List.setIfInBounds_toArray, List.set_cons_zero, List.set_cons_succ]
      refine hreg_take (i := 2) rfl (by kernel_rfl) (by kernel_rfl) (by kernel_rfl) hreg_panic (by rfl) hHeld ?_
      apply Exists.intro
      refine ⟨fun w' hw' => ?_, ?_⟩
      · have hf := hall w' hw'
        go_simp
        try go_bits
        exact yieldsV_mk rfl
      simp only [Act.put, List.setIfInBounds_toArray, List.set_cons_zero, List.set_cons_succ]
      refine hreg_take (i := 3) rfl (by kernel_rfl) (by kernel_rfl) (by kernel_rfl) hreg_panic (by rfl) hHeld ?_
      apply Exists.intro
      refine ⟨fun w' hw' => ?_, ?_⟩
      · have hf := hall w' hw'
        go_simp
        try go_bits
        exact yieldsV_mk rfl
      simp only [Act.put, List.setIfInBounds_toArray, List.set_cons_zero, List.set_cons_succ]
      refine hreg_take (i := 4) rfl (by kernel_rfl) (by kernel_rfl) (by kernel_rfl) hreg_panic (by rfl) hHeld ?_
      apply Exists.intro
      refine ⟨fun w' hw' => ?_, ?_⟩
      · have hf := hall w' hw'
        go_simp
        try go_bits
        exact yieldsV_mk rfl
      simp only [Act.put, List.setIfInBounds_toArray, List.set_cons_zero, List.set_cons_succ]
      refine hreg_take (i := 5) rfl (by kernel_rfl) (by kernel_rfl) (by kernel_rfl) hreg_panic (by rfl) hHeld ?_
      apply Exists.intro
      refine ⟨fun w' hw' => ?_, ?_⟩
      · have hf := hall w' hw'
        go_simp
        try go_bits
        exact yieldsV_mk rfl
      simp only [Act.put, List.setIfInBounds_toArray, List.set_cons_zero, List.set_cons_succ]
      refine hreg_take (i := 7) rfl (by kernel_rfl) (by kernel_rfl) (by kernel_rfl) hreg_panic (by rfl) hHeld ?_
      apply Exists.intro
      refine ⟨fun w' hw' => ?_, ?_⟩
      · have hf := hall w' hw'
        go_simp
        try go_bits
        exact yieldsV_mk rfl
      simp only [Act.put, List.setIfInBounds_toArray, List.set_cons_zero, List.set_cons_succ]
      refine wpAnyH_ready (rs := [6]) (by kernel_rfl) (by simp) ?_
      refine hreg_event (o := _) rfl (by rfl) (fun K hK => ?_) ?_
      · go_simp
        first
          | (rw [hap5.out]; have hb := hB5; go_simp)
          | skip
        refine hK.out _ _ ?_ (fun hHeld' => ?_)
        · first
            | exact ⟨hB5⟩
            | exact hHeld.next hb
            | exact hHeld
            | exact hHeld.alloc _
            | exact hHeld.setCell (by simp <;> omega) _
            | exact (hHeld.alloc _).alloc _
        replace hHeld := hHeld'
        clear hHeld' hK K
        simp only [Act.put, List.setIfInBounds_toArray, List.set_cons_zero, List.set_cons_succ]
        refine wpAnyH_ready (rs := [8]) (by kernel_rfl) (by simp) ?_
        refine hreg_event (o := _) rfl (by rfl) (fun K hK => ?_) ?_
        · go_simp
          first
            | (rw [hap5.out]; have hb := hB5; go_simp)
            | skip
          refine hK.out _ _ ?_ (fun hHeld' => ?_)
          · first
              | exact ⟨hB5⟩
              | exact hHeld.next hb
              | exact hHeld
              | exact hHeld.alloc _
              | exact hHeld.setCell (by simp <;> omega) _
              | exact (hHeld.alloc _).alloc _
          replace hHeld := hHeld'
          clear hHeld' hK K
          simp only [Act.put, List.setIfInBounds_toArray, List.set_cons_zero, List.set_cons_succ]
          refine hreg_take (i := 9) rfl (by kernel_rfl) (by kernel_rfl) (by kernel_rfl) hreg_panic (by rfl) hHeld ?_
          apply Exists.intro
          refine ⟨fun w' hw' => ?_, ?_⟩
          · have hf := hall w' hw'
            go_simp
            try go_bits
            exact yieldsV_mk rfl
          simp only [Act.put, List.setIfInBounds_toArray, List.set_cons_zero, List.set_cons_succ]
          refine wpAnyH_done (by kernel_rfl) ?_ _
          refine NoPanic.normal ?_
          have k5 : rowOf w5 W.heap.size 0 32 = some (keyC k) := by rw [rowOf_congr (hB5.block _ lq)]; exact kq
          have l5 : W.heap.size < w5.heap.size := by have := hB5.size; omega
          have B1 := fun (w' : World) (h : Since w5 w') => all_any u5 n5 c5 (⟨k, q, false⟩ :: (goodL k ng ++ l)) k ng w' (hF5.out.below h) hn5c (by omega)
          have B2 := fun (w' : World) (h : Since w5 w') => all_any u5 n5 c5 (⟨k, q, false⟩ :: (goodL k ng ++ l)) k q w' (hF5.out.below h) hn5c (by have := hq.out; omega)
          simp only [hbad.out] at B1
          simp only [hbel.out] at B2
          replace B1 := Box.mk B1
          replace B2 := Box.mk B2
          clear hall
          go_wp2_with fail
          obtain ⟨w6, hw6⟩ : ∃ w6, w6 = w5 := ⟨_, rfl⟩
          subst hw6
          (refine region_since (by kernel_rfl) (by kernel_rfl) ?_)
          repeat (first
            | (refine wpQuiet_goff rfl rfl rfl rfl ?_; simp only [Act.put, List.setIfInBounds_toArray, List.set_cons_succ, List.set_cons_zero])
            | (first
                 | refine wpQuiet_free rfl ?_
                 | refine wpQuiet_gon rfl rfl rfl rfl ?_
               apply Exists.intro
               refine ⟨fun w' hw' => ?_, ?_⟩
               · (obtain ⟨hc', hr', hs'⟩ := since_facts hw'
                  unfold Oper.quietAt
                  go_simp
                  try go_bits
                  first
                    | exact quietUpon_value rfl
                    | (apply quietUpon_enter
                       first
                       | (go_at_call_of 20 (Value.int IntKind.i64 (ng : Int)); exact calls_since hw' (B1.out _ hw'))
                       | (go_at_call_of 20 (Value.int IntKind.i64 (q : Int)); exact calls_since hw' (B2.out _ hw'))))
               simp only [Act.put, List.setIfInBounds_toArray, List.set_cons_succ, List.set_cons_zero]))
          first
            | refine wpQuiet_nil ?_
            | fail "QUIET stopped"
          intro wq hwq'
          go_wp2
          go_ret
          exact gives_bool rfl (since_next (since_next hbq hB5) hwq')
        exact AllReadyH.nil
      exact AllReadyH.nil

end Go.Proofs.Ytpgaibihfplhcaa
