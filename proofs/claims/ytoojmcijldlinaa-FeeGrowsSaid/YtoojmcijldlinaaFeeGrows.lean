/- Layer 13: a transaction with one thing more has as many actions, or one more. -/
import Derived.Test.YtoojmcijldlinaaFee5
import Derived.Test.YtoojmcijldlinaaPts
import Derived.Test.YtoojmcijldlinaaHeld
import Derived.Test.YtoojmcijldlinaaHReg
namespace Go.Proofs.Ytoojmcijldlinaa
open Go.RowKit
set_option linter.unusedVariables false
set_option linter.unusedSimpArgs false
attribute [local irreducible] Int.lt Int.le
attribute [local go_sem ↓] load_key store_key alloc_key build0_key one_key eq_key load_tx store_tx alloc_tx build0_tx one_pt append_pt build1_pt append_key
attribute [local go_sem] rowOf_drew rowOf_alloc_old rowOf_alloc_new canPut_drew canPut_alloc_old canPut_alloc_new setCells_alloc_new

/-- A fact out of the walk's sight. -/
structure Box (p : Prop) : Prop where
  out : p

theorem tx_facts {w : World} {b : Nat} {t : TxV} (h : rowOf w b 0 38 = some (txC t)) : w.cell? ⟨b, 1, none⟩ = some (.slice t.ins.a t.ins.len t.ins.cap) ∧ w.cell? ⟨b, 36, none⟩ = some (.slice t.notes.a t.notes.len t.notes.cap) := by
  have hr := (rowOf_some.1 h).2
  have h1 := hr 1 _ (txC_1 t)
  have h2 := hr 36 _ (txC_36 t)
  rw [Nat.zero_add] at h1 h2
  exact ⟨h1, h2⟩

set_option maxRecDepth 100000 in
set_option maxHeartbeats 8000000 in
theorem feeGrows_walk (t : TxV) (k : Key) (insL : List PointV) (notesL : List Key) (W : World) (hI : PL W t.ins.a t.ins.len t.ins.cap insL) (hN : SL keyC 32 W t.notes.a t.notes.len t.notes.cap notesL) :
    Calls Try.prog 4 #[.agg (txC t).toArray, .agg (keyC k).toArray] W (Gives (.bool true) W) := by
  cases hv : heavyB t
  · have hS := heavy_small hv
    go_enter Try.func4, Try.ntmps4
    go_wp2_with fail
    have hB0 : Below W.heap.size W ((W.alloc (.cells (txC t).toArray 35)).alloc (.cells (keyC k).toArray 32)) := ((Below.refl _ _).alloc (Nat.le_refl _) _).alloc (by simp) _
    have T0 : rowOf ((W.alloc (.cells (txC t).toArray 35)).alloc (.cells (keyC k).toArray 32)) W.heap.size 0 38 = some (txC t) := by simp [go_sem]
    have K0 : rowOf ((W.alloc (.cells (txC t).toArray 35)).alloc (.cells (keyC k).toArray 32)) (W.heap.size + 1) 0 32 = some (keyC k) := rowOf_alloc_new _ _ _ _ _ _ (by simp) (keyC_length k)
    obtain ⟨w0, hw0⟩ : ∃ w0, w0 = (W.alloc (.cells (txC t).toArray 35)).alloc (.cells (keyC k).toArray 32) := ⟨_, rfl⟩
    have hsz0 : w0.heap.size = W.heap.size + 2 := by rw [hw0]; simp
    rw [← hw0] at hB0 T0 K0 ⊢
    replace hw0 := Box.mk hw0
    have hF : ∀ w', Below w0.heap.size w0 w' → (rowOf w' W.heap.size 0 38 = some (txC t) ∧ rowOf w' (W.heap.size + 1) 0 32 = some (keyC k) ∧ W.heap.size < w'.heap.size ∧ W.heap.size + 1 < w'.heap.size) := fun w' h => ⟨by rw [rowOf_congr (h.block _ (by omega))]; exact T0, by rw [rowOf_congr (h.block _ (by omega))]; exact K0, by have := h.size; omega, by have := h.size; omega⟩
    replace hF := Box.mk hF
    obtain ⟨x1, x2, x3, x4⟩ := hF.out w0 (Below.refl _ _)
    go_wp2_with fail
    refine (heavy_any t _).mono ?_
    rintro e w1 ⟨rfl, hb1⟩
    rw [hv]
    obtain ⟨y1, y2, y3, y4⟩ := hF.out w1 hb1
    go_wp2_with fail
    refine (shown13 _).mono ?_
    rintro e w2 ⟨rfl, hb2⟩
    have hB2 := since_next hb1 hb2
    obtain ⟨z1, z2, z3, z4⟩ := hF.out w2 hB2
    go_wp2_with fail
    rename_i K hKc
    have hcont : ∀ (v18 v19 v20 v21 v22 v23 v24 v25 : Value) (u : Option Addr) (n c : Nat) (w3 : World), Below w0.heap.size w0 w3 → w2.heap.size < w3.heap.size → rowOf w3 w2.heap.size 0 38 = some (txC { t with notes := ⟨u, n, c⟩ }) → n = t.notes.len + 1 → K { tmps := #[Value.agg (txC t).toArray, Value.agg (keyC k).toArray, Value.pointer (some ⟨W.heap.size, 0, none⟩), Value.pointer (some ⟨W.heap.size + 1, 0, none⟩), Value.bool false, Value.pointer (some ⟨w2.heap.size, 0, none⟩), undef, undef, undef, undef, Value.agg (txC t).toArray, Value.bool false, Value.bool false, Value.bool true, Value.bool false, Value.bool false, undef, Value.agg (txC t).toArray, v18, v19, v20, v21, v22, v23, v24, v25, undef, undef, undef, undef, undef, undef, undef, undef, undef, undef, undef, undef, undef, undef, undef, undef, undef, undef, undef, undef, undef, undef, undef, undef, undef, undef, undef, undef, undef, undef, undef, undef, undef, undef, undef, undef, undef, undef, undef, undef, undef, undef, undef, undef, undef, undef, undef, undef, undef, undef, undef, undef, undef, undef, undef, undef, undef, undef, undef, undef, undef, undef, undef, undef, undef, undef, undef, undef, undef, undef, undef, undef, undef, undef, undef, undef], defers := [] } w3 := by
      intro v18 v19 v20 v21 v22 v23 v24 v25 u n c w3 hB3 hlt3 hu hnn
      as_aux_lemma =>
        obtain ⟨a1, a2, a3, a4⟩ := hF.out w3 hB3
        replace hnn := Box.mk hnn
        apply hKc
        go_wp2_with fail
        rename_i K2 hKc2
        have hcont2 : ∀ (v27 v28 v29 v30 v31 v32 v33 v34 v35 : Value) (u' : Option Addr) (n' c' : Nat) (w5 : World), Below w3.heap.size w3 w5 → rowOf w5 w3.heap.size 0 38 = some (txC { t with ins := ⟨u', n', c'⟩ }) → n' = t.ins.len + 1 → w3.heap.size < w5.heap.size → K2 { tmps := #[Value.agg (txC t).toArray, Value.agg (keyC k).toArray, Value.pointer (some ⟨W.heap.size, 0, none⟩), Value.pointer (some ⟨W.heap.size + 1, 0, none⟩), Value.bool false, Value.pointer (some ⟨w2.heap.size, 0, none⟩), Value.pointer (some ⟨w3.heap.size, 0, none⟩), undef, undef, undef, Value.agg (txC t).toArray, Value.bool false, Value.bool false, Value.bool true, Value.bool false, Value.bool false, undef, Value.agg (txC t).toArray, v18, v19, v20, v21, v22, v23, v24, v25, Value.agg (txC t).toArray, v27, v28, v29, v30, v31, v32, v33, v34, v35, undef, undef, undef, undef, undef, undef, undef, undef, undef, undef, undef, undef, undef, undef, undef, undef, undef, undef, undef, undef, undef, undef, undef, undef, undef, undef, undef, undef, undef, undef, undef, undef, undef, undef, undef, undef, undef, undef, undef, undef, undef, undef, undef, undef, undef, undef, undef, undef, undef, undef, undef, undef, undef, undef, undef, undef, undef, undef, undef, undef, undef, undef, undef, undef, undef, undef], defers := [] } w5 := by
          intro v27 v28 v29 v30 v31 v32 v33 v34 v35 u' n' c' w5 hB5 hvv hn' hlt5
          as_aux_lemma =>
            have hB05 := hB3.trans (hB5.mono hB3.size)
            obtain ⟨d1, d2, d3, d4⟩ := hF.out w5 hB05
            have hu5 : rowOf w5 w2.heap.size 0 38 = some (txC { t with notes := ⟨u, n, c⟩ }) := by rw [rowOf_congr (hB5.block _ hlt3)]; exact hu
            have hlu5 : w2.heap.size < w5.heap.size := by omega
            replace hn' := Box.mk hn'
            apply hKc2
            have hnn' := hnn.out
            have hn'' := hn'.out
            have hL : t.ins.len ≤ 60 ∧ t.outs.len ≤ 60 ∧ t.nulls.len ≤ 60 ∧ t.notes.len ≤ 60 := by
              have := hv
              unfold heavyB at this
              simp at this
              omega
            obtain ⟨tu, htu⟩ : ∃ tu : TxV, tu = { t with notes := ⟨u, n, c⟩ } := ⟨_, rfl⟩
            obtain ⟨tv, htv⟩ : ∃ tv : TxV, tv = { t with ins := ⟨u', n', c'⟩ } := ⟨_, rfl⟩
            rw [← htu] at hu5
            rw [← htv] at hvv
            have au : actN tu = max (t.ins.len : Int) (t.outs.len : Int) + max (t.nulls.len : Int) (n : Int) := by rw [htu]; rfl
            have av : actN tv = max (n' : Int) (t.outs.len : Int) + max (t.nulls.len : Int) (t.notes.len : Int) := by rw [htv]; rfl
            have at' : actN t = max (t.ins.len : Int) (t.outs.len : Int) + max (t.nulls.len : Int) (t.notes.len : Int) := rfl
            have sU : Small tu := by rw [htu]; exact ⟨by show t.ins.len ≤ _; omega, by show t.outs.len ≤ _; omega, by show t.nulls.len ≤ _; omega, by show n ≤ _; omega⟩
            have sV : Small tv := by rw [htv]; exact ⟨by show n' ≤ _; omega, by show t.outs.len ≤ _; omega, by show t.nulls.len ≤ _; omega, by show t.notes.len ≤ _; omega⟩
            have du := act_due sU
            have dt := act_due hS
            have cu : convN tu = dueN tu * 5000 := rfl
            have ct : convN t = dueN t * 5000 := rfl
            obtain ⟨q, hq⟩ : ∃ q, actN t = q := ⟨_, rfl⟩
            obtain ⟨qu, hqu⟩ : ∃ q, actN tu = q := ⟨_, rfl⟩
            obtain ⟨qv, hqv⟩ : ∃ q, actN tv = q := ⟨_, rfl⟩
            obtain ⟨kt, hkt⟩ : ∃ q, convN t = q := ⟨_, rfl⟩
            obtain ⟨ku, hku⟩ : ∃ q, convN tu = q := ⟨_, rfl⟩
            rw [hq] at at' dt
            rw [hqu] at au du
            rw [hqv] at av
            rw [hkt] at ct
            rw [hku] at cu
            have g1 : (10000 : Int) ≤ kt := by omega
            have g2 : kt ≤ ku := by omega
            have q0 : 0 ≤ q := by omega
            have q1 : q ≤ 120 := by omega
            have fu : (((qu == q) = true ∧ (qu == q + 1) = false ∧ decide (t.nulls.len ≤ t.notes.len) = false) ∨ ((qu == q) = false ∧ (qu == q + 1) = true ∧ decide (t.nulls.len ≤ t.notes.len) = true)) := by
              by_cases h : (t.nulls.len : Int) ≤ (t.notes.len : Int)
              · right
                have e : qu = q + 1 := by omega
                exact ⟨by rw [e]; simp; omega, by rw [e]; simp, by simp; omega⟩
              · left
                have e : qu = q := by omega
                exact ⟨by rw [e]; simp, by rw [e]; simp; omega, by simp; omega⟩
            have fv : (((qv == q) = true ∧ (qv == q + 1) = false ∧ decide (t.outs.len ≤ t.ins.len) = false) ∨ ((qv == q) = false ∧ (qv == q + 1) = true ∧ decide (t.outs.len ≤ t.ins.len) = true)) := by
              by_cases h : (t.outs.len : Int) ≤ (t.ins.len : Int)
              · right
                have e : qv = q + 1 := by omega
                exact ⟨by rw [e]; simp; omega, by rw [e]; simp, by simp; omega⟩
              · left
                have e : qv = q := by omega
                exact ⟨by rw [e]; simp, by rw [e]; simp; omega, by simp; omega⟩
            have l60 : (t.ins.len : Int) ≤ 60 ∧ (t.outs.len : Int) ≤ 60 ∧ (t.nulls.len : Int) ≤ 60 ∧ (t.notes.len : Int) ≤ 60 := by omega
            obtain ⟨l1, l2, l3, l4⟩ := l60
            clear au av at' du dt cu ct hL hnn' hn''
            replace hq := Box.mk hq
            replace hqu := Box.mk hqu
            replace hqv := Box.mk hqv
            replace hkt := Box.mk hkt
            replace hku := Box.mk hku
            replace htu := Box.mk htu
            replace htv := Box.mk htv
            replace hu := Box.mk hu
            have hlv5 : w3.heap.size < w5.heap.size := hlt5
            go_wp2_with fail
            refine (act_c t _ hS).mono ?_
            rintro e w6 ⟨rfl, hb6⟩
            rw [hq.out]
            obtain ⟨e1, e2, e3, e4⟩ := hF.out w6 (since_next hB05 hb6)
            have eu : rowOf w6 w2.heap.size 0 38 = some (txC tu) := by rw [rowOf_congr (hb6.block _ hlu5)]; exact hu5
            have ev : rowOf w6 w3.heap.size 0 38 = some (txC tv) := by rw [rowOf_congr (hb6.block _ hlv5)]; exact hvv
            have hs6 := hb6.size
            have eul : w2.heap.size < w6.heap.size := by omega
            have evl : w3.heap.size < w6.heap.size := by omega
            go_wp2_with fail
            refine (act_c tu _ sU).mono ?_
            rintro e w7 ⟨rfl, hb7⟩
            rw [hqu.out]
            have hB07 := since_next (since_next hB05 hb6) hb7
            obtain ⟨i1, i2, i3, i4⟩ := hF.out w7 hB07
            have iu : rowOf w7 w2.heap.size 0 38 = some (txC tu) := by rw [rowOf_congr (hb7.block _ eul)]; exact eu
            have iv : rowOf w7 w3.heap.size 0 38 = some (txC tv) := by rw [rowOf_congr (hb7.block _ evl)]; exact ev
            have hs7 := hb7.size
            have iul : w2.heap.size < w7.heap.size := by omega
            have ivl : w3.heap.size < w7.heap.size := by omega
            go_wp2_with fail
            refine (act_c tv _ sV).mono ?_
            rintro e w8 ⟨rfl, hb8⟩
            rw [hqv.out]
            have hB08 := since_next hB07 hb8
            obtain ⟨m1, m2, m3, m4⟩ := hF.out w8 hB08
            have mu : rowOf w8 w2.heap.size 0 38 = some (txC tu) := by rw [rowOf_congr (hb8.block _ iul)]; exact iu
            have hs8 := hb8.size
            have mul' : w2.heap.size < w8.heap.size := by omega
            have hr := (rowOf_some.1 m1).2
            have n1 := hr 1 _ (txC_1 t)
            have n2' := hr 2 _ (txC_2 t)
            have n35 := hr 35 _ (txC_35 t)
            have n36 := hr 36 _ (txC_36 t)
            rw [Nat.zero_add] at n1 n2' n35 n36
            have hBW8 : Below W.heap.size W w8 := hB0.trans (hB08.mono (by omega))
            have C1 := fun (w' : World) => conv_c t w' hS
            have C2 := fun (w' : World) => conv_c tu w' sU
            simp only [hkt.out] at C1
            simp only [hku.out] at C2
            replace C1 := Box.mk C1
            replace C2 := Box.mk C2
            clear d1 d2 d3 d4 e1 e2 e3 e4 i1 i2 i3 i4 eu ev iu iv hu5 hvv hr
            rcases fu with ⟨fu1, fu2, fu3⟩ | ⟨fu1, fu2, fu3⟩
            all_goals
              rcases fv with ⟨fv1, fv2, fv3⟩ | ⟨fv1, fv2, fv3⟩
              all_goals
                go_wp2_with fail
                (refine region_since (by kernel_rfl) (by kernel_rfl) ?_)
                repeat (first
                  | (refine wpQuiet_goff rfl rfl rfl rfl ?_; simp only [Act.put, List.setIfInBounds_toArray, List.set_cons_succ, List.set_cons_zero])
                  | (first
                       | refine wpQuiet_free rfl ?_
                       | refine wpQuiet_gon rfl rfl rfl rfl ?_
                     apply Exists.intro
                     refine ⟨fun w' hw' => ?_, ?_⟩
                     · (obtain ⟨hc', hr', hs'⟩ := since_facts hw'
                        unfold Oper.quietAt
                        go_simp
                        try go_bits
                        first
                          | exact quietUpon_value rfl
                          | (apply quietUpon_enter
                             first
                             | (go_at_call_of 19 (Value.agg (txC t).toArray); exact calls_since hw' (C1.out _))
                             | (go_at_call 19; exact calls_since hw' (C2.out _))))
                     simp only [Act.put, List.setIfInBounds_toArray, List.set_cons_succ, List.set_cons_zero]))
                first
                  | refine wpQuiet_nil ?_
                  | fail "QUIET stopped"
                intro wq hwq'
                go_wp2
                go_ret
                exact gives_bool rfl (since_next hBW8 hwq')
        have hli : insL.length = t.ins.len := hI.1.symm
        have hib : insL.length ≤ 1000000 := by rw [hli]; exact hS.1
        have one33 : ∀ (w : World), PL (w.alloc (.cells (pointC ⟨k, 0⟩).toArray 38)) (some ⟨w.heap.size, 0, none⟩) 1 1 [(⟨k, 0⟩ : PointV)] := fun w => by
          have := (Own.new pointC_length w w.heap.size [(⟨k, 0⟩ : PointV)] 38 (Nat.le_refl _) (by unfold maxLen; simp)).sl'.2
          rw [rows_one] at this
          exact this
        have hBy0 : Below w3.heap.size w3 (w3.alloc (.cells (txC t).toArray 35)) := (Below.refl _ _).alloc (Nat.le_refl _) _
        have U1 : rowOf (w3.alloc (.cells (txC t).toArray 35)) w3.heap.size 0 38 = some (txC t) := rowOf_alloc_new _ _ _ _ _ _ rfl (txC_length t)
        have P1 : canPut (w3.alloc (.cells (txC t).toArray 35)) w3.heap.size 0 38 = true := canPut_alloc_new _ _ _ _ _ _ rfl (by rw [txC_length]; exact Nat.le_refl _)
        obtain ⟨wy, hwy⟩ : ∃ wy, wy = w3.alloc (.cells (txC t).toArray 35) := ⟨_, rfl⟩
        have hszy : wy.heap.size = w3.heap.size + 1 := by rw [hwy]; simp
        rw [← hwy] at hBy0 U1 P1 ⊢
        replace hwy := Box.mk hwy
        have hByW : Below w0.heap.size w0 wy := hB3.trans (hBy0.mono hB3.size)
        have hIy : PL wy t.ins.a t.ins.len t.ins.cap insL := hI.below (hB0.trans (hByW.mono (by omega)))
        have hly : w3.heap.size < wy.heap.size := by omega
        have hw03 : w0.heap.size ≤ w3.heap.size := hB3.size
        replace hszy := Box.mk hszy
        obtain ⟨uA, nA, cA, wA, hA1, oA1, bA1, sA1, lA1, _⟩ := app_pk (w := (wy.alloc (.cells #[] 38)).drew) (base := wy.heap.size) (ty := 29) ((Own.empty pointC 33 38 wy wy.heap.size wy.heap.size rfl (Nat.le_refl _)).congr fun _ _ _ => rfl) (by simp) t.ins.a t.ins.len t.ins.cap insL (hIy.below (((Below.refl _ _).alloc (Nat.le_refl _) _).drew)) (by simp <;> omega)
        have BA1 : Below wy.heap.size wy wA := (((Below.refl _ _).alloc (Nat.le_refl _) _).drew).trans bA1
        obtain ⟨uA2, nA2, cA2, wA2, hA2, oA2, bA2, sA2, lA2, _⟩ := app_pk (w := wA.alloc (.cells (pointC ⟨k, 0⟩).toArray 38)) (base := wy.heap.size) (ty := 29) (oA1.below ((Below.refl _ _).alloc (Nat.le_refl _) _)) (Nat.le_trans BA1.size (by simp)) (some ⟨wA.heap.size, 0, none⟩) 1 1 [(⟨k, 0⟩ : PointV)] (one33 wA) (by simp <;> omega)
        have BA2 : Below wy.heap.size wy wA2 := (BA1.alloc BA1.size _).trans bA2
        have mA : nA2 = insL.length + 1 := by simp at lA2; omega
        obtain ⟨uB, nB, cB, wB, hB1, oB1, bB1, sB1, lB1, kB1⟩ := app_pk (w := ((wy.alloc (.cells #[] 38)).alloc (.cells (pointC ⟨k, 0⟩).toArray 38)).drew) (base := wy.heap.size) (ty := 29) (((Own.empty pointC 33 38 wy wy.heap.size wy.heap.size rfl (Nat.le_refl _)).below ((Below.refl _ _).alloc (Nat.le_refl _) _)).congr fun _ _ _ => rfl) (by simp <;> omega) t.ins.a t.ins.len t.ins.cap insL (hIy.below ((((Below.refl _ _).alloc (Nat.le_refl _) _).alloc (by simp) _).drew)) (by simp <;> omega)
        have BB1 : Below wy.heap.size wy wB := ((((Below.refl _ _).alloc (Nat.le_refl _) _).alloc (by simp) _).drew).trans bB1
        have EB : PL wB (some ⟨wy.heap.size + 1, 0, none⟩) 1 1 [(⟨k, 0⟩ : PointV)] := by
          have h1 := one33 (wy.alloc (.cells #[] 38))
          rw [World.size_alloc] at h1
          obtain ⟨q1, q2, q3, q4, q5⟩ := h1
          refine ⟨q1, q2, q3, q4, fun hne => ?_⟩
          obtain ⟨b, o, e, hb, hr⟩ := q5 hne
          injection e with e
          injection e with e1 e2
          subst e1 e2
          have hs : wy.heap.size + 1 < wB.heap.size := by simp at sB1; omega
          refine ⟨_, _, rfl, hs, ?_⟩
          rw [rowOf_congr (kB1 _ (by simp) (by simp [Value.ownBlock]))]
          exact hr
        obtain ⟨uB2, nB2, cB2, wB2, hB2', oB2, bB2, sB2, lB2, _⟩ := app_pk (w := wB) (base := wy.heap.size) (ty := 29) oB1 BB1.size (some ⟨wy.heap.size + 1, 0, none⟩) 1 1 [(⟨k, 0⟩ : PointV)] EB (by simp <;> omega)
        have BB2 : Below wy.heap.size wy wB2 := BB1.trans bB2
        have mB : nB2 = insL.length + 1 := by simp at lB2; omega
        obtain ⟨uC, nC, cC, wC, hC1, oC1, bC1, sC1, lC1, _⟩ := app_pk (w := ((wy.alloc (.cells (pointC ⟨k, 0⟩).toArray 38)).alloc (.cells #[] 38)).drew) (base := wy.heap.size + 1) (ty := 29) ((Own.empty pointC 33 38 (wy.alloc (.cells (pointC ⟨k, 0⟩).toArray 38)) (wy.heap.size + 1) (wy.heap.size + 1) (by simp) (Nat.le_refl _)).congr fun _ _ _ => rfl) (by simp <;> omega) t.ins.a t.ins.len t.ins.cap insL (hIy.below ((((Below.refl _ _).alloc (Nat.le_refl _) _).alloc (by simp) _).drew)) (by simp <;> omega)
        have BC1 : Below wy.heap.size wy wC := ((((Below.refl _ _).alloc (Nat.le_refl _) _).alloc (by simp) _).drew).trans (bC1.mono (by omega))
        have EC : PL wC (some ⟨wy.heap.size, 0, none⟩) 1 1 [(⟨k, 0⟩ : PointV)] := by
          have h1 := one33 wy
          obtain ⟨q1, q2, q3, q4, q5⟩ := h1
          refine ⟨q1, q2, q3, q4, fun hne => ?_⟩
          obtain ⟨b, o, e, hb, hr⟩ := q5 hne
          injection e with e
          injection e with e1 e2
          subst e1 e2
          have hs : wy.heap.size < wC.heap.size := by simp at sC1; omega
          refine ⟨_, _, rfl, hs, ?_⟩
          rw [rowOf_congr (bC1.block _ (by omega)), rowOf_drew, rowOf_alloc_old _ _ _ _ _ (by simp)]
          exact hr
        obtain ⟨uC2, nC2, cC2, wC2, hC2, oC2, bC2, sC2, lC2, _⟩ := app_pk (w := wC) (base := wy.heap.size + 1) (ty := 29) oC1 (by simp at sC1; omega) (some ⟨wy.heap.size, 0, none⟩) 1 1 [(⟨k, 0⟩ : PointV)] EC (by simp <;> omega)
        have BC2 : Below wy.heap.size wy wC2 := BC1.trans (bC2.mono (by omega))
        have mC : nC2 = insL.length + 1 := by simp at lC2; omega
        replace hA1 := Box.mk hA1
        replace hA2 := Box.mk hA2
        replace hB1 := Box.mk hB1
        replace hB2' := Box.mk hB2'
        replace hC1 := Box.mk hC1
        replace hC2 := Box.mk hC2
        replace mA := Box.mk mA
        replace mB := Box.mk mB
        replace mC := Box.mk mC
        clear oA1 oA2 oB1 oB2 oC1 oC2 kB1 bA1 bA2 bB1 bB2 bC1 bC2 lA1 lA2 lB1 lB2 lC1 lC2 EB EC sA1 sA2 sB1 sB2 sC1 sC2
        have hfin : ∀ (wX : World) (u : Option Addr) (n c : Nat), Below wy.heap.size wy wX → (wX.cell? ⟨w3.heap.size, 1, none⟩ = some (.slice t.ins.a t.ins.len t.ins.cap) ∧ wX.frozen? ⟨w3.heap.size, 1, none⟩ = false ∧ w3.heap.size < wX.heap.size) ∧ rowOf (wX.setCell ⟨w3.heap.size, 1, none⟩ (.slice u n c)) w3.heap.size 0 38 = some (txC { t with ins := ⟨u, n, c⟩ }) ∧ Below w3.heap.size w3 (wX.setCell ⟨w3.heap.size, 1, none⟩ (.slice u n c)) ∧ w3.heap.size < (wX.setCell ⟨w3.heap.size, 1, none⟩ (.slice u n c)).heap.size := by
          intro wX u n c hX
          have hrow : rowOf wX w3.heap.size 0 38 = some (txC t) := by rw [rowOf_congr (hX.block _ (by omega))]; exact U1
          have hput : canPut wX w3.heap.size 0 38 = true := by rw [canPut_congr (hX.block _ (by omega))]; exact P1
          have hs := hX.size
          have hp1 := canPut_there.1 hput 1 (by omega)
          rw [Nat.zero_add] at hp1
          refine ⟨⟨(tx_facts hrow).1, hp1.2, by omega⟩, ?_, ?_, by simp [World.setCell]; omega⟩
          · rw [row_setCell hrow hput (by omega) _ rfl]
            exact congrArg some (txC_ins t ⟨u, n, c⟩)
          · exact Below.setCell (hBy0.trans (hX.mono (by omega))) (Nat.le_refl _) _
        have hall : ∀ w', SinceB w3.heap.size wy w' → (w'.cell? ⟨W.heap.size, 1, none⟩ = some (.slice t.ins.a t.ins.len t.ins.cap) ∧ rowOf w' (W.heap.size + 1) 0 32 = some (keyC k) ∧ W.heap.size < w'.heap.size ∧ W.heap.size + 1 < w'.heap.size ∧ w3.heap.size < w'.heap.size) := fun w' h => by
          have hh := hF.out w' (hByW.trans (h.out.mono hw03))
          exact ⟨(tx_facts hh.1).1, hh.2.1, hh.2.2.1, hh.2.2.2, by have := h.size; omega⟩
        refine hreg_begin (S := SinceB w3.heap.size wy) (by kernel_rfl) (SinceB.refl (by omega)).drew (fun hHeld => ?_)
        simp only [List.length_cons, List.length_nil, Nat.zero_add, Nat.reduceAdd, Array.replicate]
        refine hreg_take (i := 1) rfl (by kernel_rfl) (by kernel_rfl) (by kernel_rfl) hreg_panic (by rfl) hHeld ?_
        apply Exists.intro
        refine ⟨fun w' hw' => ?_, ?_⟩
        · have hf := hall w' hw'
          go_simp
          try go_bits
          exact yieldsV_mk rfl
        simp only [Act.put, List.setIfInBounds_toArray, List.set_cons_zero, List.set_cons_succ]
        refine hreg_take (i := 2) rfl (by kernel_rfl) (by kernel_rfl) (by kernel_rfl) hreg_panic (by rfl) hHeld ?_
        apply Exists.intro
        refine ⟨fun w' hw' => ?_, ?_⟩
        · have hf := hall w' hw'
          go_simp
          try go_bits
          exact yieldsV_mk rfl
        simp only [Act.put, List.setIfInBounds_toArray, List.set_cons_zero, List.set_cons_succ]
        refine hreg_take (i := 4) rfl (by kernel_rfl) (by kernel_rfl) (by kernel_rfl) hreg_panic (by rfl) hHeld ?_
        apply Exists.intro
        refine ⟨fun w' hw' => ?_, ?_⟩
        · have hf := hall w' hw'
          go_simp
          try go_bits
          exact yieldsV_mk rfl
        simp only [Act.put, List.setIfInBounds_toArray, List.set_cons_zero, List.set_cons_succ]
        refine hreg_take (i := 5) rfl (by kernel_rfl) (by kernel_rfl) (by kernel_rfl) hreg_panic (by rfl) hHeld ?_
        apply Exists.intro
        refine ⟨fun w' hw' => ?_, ?_⟩
        · have hf := hall w' hw'
          go_simp
          try go_bits
          exact yieldsV_mk rfl
        simp only [Act.put, List.setIfInBounds_toArray, List.set_cons_zero, List.set_cons_succ]
        refine wpAnyH_ready (rs := [0, 6]) (by kernel_rfl) (by simp) ?_
        refine hreg_event (o := _) rfl (by rfl) (fun K hK => ?_) ?_
        · go_simp
          first
            | skip
          refine hK.out _ _ ?_ (fun hHeld' => ?_)
          · first
              | exact hHeld.setCell (Nat.le_refl _) _
              | exact hHeld.next hb
              | exact hHeld
              | exact hHeld.alloc _
              | exact hHeld.setCell (by simp <;> omega) _
              | exact (hHeld.alloc _).alloc _
          replace hHeld := hHeld'
          clear hHeld' hK K
          simp only [Act.put, List.setIfInBounds_toArray, List.set_cons_zero, List.set_cons_succ]
          refine wpAnyH_ready (rs := [3, 6]) (by kernel_rfl) (by simp) ?_
          refine hreg_event (o := _) rfl (by rfl) (fun K hK => ?_) ?_
          · go_simp
            first
              | (rw [hA1.out]; go_simp)
              | skip
            refine hK.out _ _ ?_ (fun hHeld' => ?_)
            · first
                | exact ⟨BA1.mono (by omega), by omega⟩
                | exact hHeld.setCell (Nat.le_refl _) _
                | exact hHeld.next hb
                | exact hHeld
                | exact hHeld.alloc _
                | exact hHeld.setCell (by simp <;> omega) _
                | exact (hHeld.alloc _).alloc _
            replace hHeld := hHeld'
            clear hHeld' hK K
            simp only [Act.put, List.setIfInBounds_toArray, List.set_cons_zero, List.set_cons_succ]
            refine wpAnyH_ready (rs := [6]) (by kernel_rfl) (by simp) ?_
            refine hreg_event (o := _) rfl (by rfl) (fun K hK => ?_) ?_
            · go_simp
              first
                | skip
              refine hK.out _ _ ?_ (fun hHeld' => ?_)
              · first
                  | exact hHeld.setCell (Nat.le_refl _) _
                  | exact hHeld.next hb
                  | exact hHeld
                  | exact hHeld.alloc _
                  | exact hHeld.setCell (by simp <;> omega) _
                  | exact (hHeld.alloc _).alloc _
              replace hHeld := hHeld'
              clear hHeld' hK K
              simp only [Act.put, List.setIfInBounds_toArray, List.set_cons_zero, List.set_cons_succ]
              refine wpAnyH_ready (rs := [7]) (by kernel_rfl) (by simp) ?_
              refine hreg_event (o := _) rfl (by rfl) (fun K hK => ?_) ?_
              · go_simp
                first
                  | (rw [hA2.out]; go_simp)
                  | skip
                refine hK.out _ _ ?_ (fun hHeld' => ?_)
                · first
                    | exact ⟨BA2.mono (by omega), by omega⟩
                    | exact hHeld.setCell (Nat.le_refl _) _
                    | exact hHeld.next hb
                    | exact hHeld
                    | exact hHeld.alloc _
                    | exact hHeld.setCell (by simp <;> omega) _
                    | exact (hHeld.alloc _).alloc _
                replace hHeld := hHeld'
                clear hHeld' hK K
                simp only [Act.put, List.setIfInBounds_toArray, List.set_cons_zero, List.set_cons_succ]
                refine hreg_take (i := 8) rfl (by kernel_rfl) (by kernel_rfl) (by kernel_rfl) hreg_panic (by rfl) hHeld ?_
                apply Exists.intro
                refine ⟨fun w' hw' => ?_, ?_⟩
                · have hf := hall w' hw'
                  go_simp
                  try go_bits
                  exact yieldsV_mk rfl
                simp only [Act.put, List.setIfInBounds_toArray, List.set_cons_zero, List.set_cons_succ]
                refine wpAnyH_ready (rs := [9]) (by kernel_rfl) (by simp) ?_
                refine hreg_event (o := _) rfl (by rfl) (fun K hK => ?_) ?_
                · go_simp
                  first
                    | (obtain ⟨⟨j1, j2, j3⟩, jr, jb, jl⟩ := hfin wA2 uA2 nA2 cA2 BA2; go_simp)
                    | skip
                  refine hK.out _ _ ?_ (fun hHeld' => ?_)
                  · first
                      | exact hHeld.setCell (Nat.le_refl _) _
                      | exact hHeld.next hb
                      | exact hHeld
                      | exact hHeld.alloc _
                      | exact hHeld.setCell (by simp <;> omega) _
                      | exact (hHeld.alloc _).alloc _
                  replace hHeld := hHeld'
                  clear hHeld' hK K
                  simp only [Act.put, List.setIfInBounds_toArray, List.set_cons_zero, List.set_cons_succ]
                  refine wpAnyH_done (by kernel_rfl) ?_ _
                  refine NoPanic.normal ?_
                  exact hcont2 _ _ _ _ _ _ _ _ _ uA2 nA2 cA2 _ jb jr (by rw [mA.out, hli]) jl
                exact AllReadyH.nil
              exact AllReadyH.nil
            exact AllReadyH.nil
          refine hreg_event (o := _) rfl (by rfl) (fun K hK => ?_) ?_
          · go_simp
            first
              | skip
            refine hK.out _ _ ?_ (fun hHeld' => ?_)
            · first
                | exact hHeld.setCell (Nat.le_refl _) _
                | exact hHeld.next hb
                | exact hHeld
                | exact hHeld.alloc _
                | exact hHeld.setCell (by simp <;> omega) _
                | exact (hHeld.alloc _).alloc _
            replace hHeld := hHeld'
            clear hHeld' hK K
            simp only [Act.put, List.setIfInBounds_toArray, List.set_cons_zero, List.set_cons_succ]
            refine wpAnyH_ready (rs := [3]) (by kernel_rfl) (by simp) ?_
            refine hreg_event (o := _) rfl (by rfl) (fun K hK => ?_) ?_
            · go_simp
              first
                | (rw [hB1.out]; go_simp)
                | skip
              refine hK.out _ _ ?_ (fun hHeld' => ?_)
              · first
                  | exact ⟨BB1.mono (by omega), by omega⟩
                  | exact hHeld.setCell (Nat.le_refl _) _
                  | exact hHeld.next hb
                  | exact hHeld
                  | exact hHeld.alloc _
                  | exact hHeld.setCell (by simp <;> omega) _
                  | exact (hHeld.alloc _).alloc _
              replace hHeld := hHeld'
              clear hHeld' hK K
              simp only [Act.put, List.setIfInBounds_toArray, List.set_cons_zero, List.set_cons_succ]
              refine wpAnyH_ready (rs := [7]) (by kernel_rfl) (by simp) ?_
              refine hreg_event (o := _) rfl (by rfl) (fun K hK => ?_) ?_
              · go_simp
                first
                  | (rw [hB2'.out]; go_simp)
                  | skip
                refine hK.out _ _ ?_ (fun hHeld' => ?_)
                · first
                    | exact ⟨BB2.mono (by omega), by omega⟩
                    | exact hHeld.setCell (Nat.le_refl _) _
                    | exact hHeld.next hb
                    | exact hHeld
                    | exact hHeld.alloc _
                    | exact hHeld.setCell (by simp <;> omega) _
                    | exact (hHeld.alloc _).alloc _
                replace hHeld := hHeld'
                clear hHeld' hK K
                simp only [Act.put, List.setIfInBounds_toArray, List.set_cons_zero, List.set_cons_succ]
                refine hreg_take (i := 8) rfl (by kernel_rfl) (by kernel_rfl) (by kernel_rfl) hreg_panic (by rfl) hHeld ?_
                apply Exists.intro
                refine ⟨fun w' hw' => ?_, ?_⟩
                · have hf := hall w' hw'
                  go_simp
                  try go_bits
                  exact yieldsV_mk rfl
                simp only [Act.put, List.setIfInBounds_toArray, List.set_cons_zero, List.set_cons_succ]
                refine wpAnyH_ready (rs := [9]) (by kernel_rfl) (by simp) ?_
                refine hreg_event (o := _) rfl (by rfl) (fun K hK => ?_) ?_
                · go_simp
                  first
                    | (obtain ⟨⟨j1, j2, j3⟩, jr, jb, jl⟩ := hfin wB2 uB2 nB2 cB2 BB2; go_simp)
                    | skip
                  refine hK.out _ _ ?_ (fun hHeld' => ?_)
                  · first
                      | exact hHeld.setCell (Nat.le_refl _) _
                      | exact hHeld.next hb
                      | exact hHeld
                      | exact hHeld.alloc _
                      | exact hHeld.setCell (by simp <;> omega) _
                      | exact (hHeld.alloc _).alloc _
                  replace hHeld := hHeld'
                  clear hHeld' hK K
                  simp only [Act.put, List.setIfInBounds_toArray, List.set_cons_zero, List.set_cons_succ]
                  refine wpAnyH_done (by kernel_rfl) ?_ _
                  refine NoPanic.normal ?_
                  exact hcont2 _ _ _ _ _ _ _ _ _ uB2 nB2 cB2 _ jb jr (by rw [mB.out, hli]) jl
                exact AllReadyH.nil
              exact AllReadyH.nil
            exact AllReadyH.nil
          exact AllReadyH.nil
        refine hreg_event (o := _) rfl (by rfl) (fun K hK => ?_) ?_
        · go_simp
          first
            | skip
          refine hK.out _ _ ?_ (fun hHeld' => ?_)
          · first
              | exact hHeld.setCell (Nat.le_refl _) _
              | exact hHeld.next hb
              | exact hHeld
              | exact hHeld.alloc _
              | exact hHeld.setCell (by simp <;> omega) _
              | exact (hHeld.alloc _).alloc _
          replace hHeld := hHeld'
          clear hHeld' hK K
          simp only [Act.put, List.setIfInBounds_toArray, List.set_cons_zero, List.set_cons_succ]
          refine wpAnyH_ready (rs := [0]) (by kernel_rfl) (by simp) ?_
          refine hreg_event (o := _) rfl (by rfl) (fun K hK => ?_) ?_
          · go_simp
            first
              | skip
            refine hK.out _ _ ?_ (fun hHeld' => ?_)
            · first
                | exact hHeld.setCell (Nat.le_refl _) _
                | exact hHeld.next hb
                | exact hHeld
                | exact hHeld.alloc _
                | exact hHeld.setCell (by simp <;> omega) _
                | exact (hHeld.alloc _).alloc _
            replace hHeld := hHeld'
            clear hHeld' hK K
            simp only [Act.put, List.setIfInBounds_toArray, List.set_cons_zero, List.set_cons_succ]
            refine wpAnyH_ready (rs := [3]) (by kernel_rfl) (by simp) ?_
            refine hreg_event (o := _) rfl (by rfl) (fun K hK => ?_) ?_
            · go_simp
              first
                | (rw [hC1.out]; go_simp)
                | skip
              refine hK.out _ _ ?_ (fun hHeld' => ?_)
              · first
                  | exact ⟨BC1.mono (by omega), by omega⟩
                  | exact hHeld.setCell (Nat.le_refl _) _
                  | exact hHeld.next hb
                  | exact hHeld
                  | exact hHeld.alloc _
                  | exact hHeld.setCell (by simp <;> omega) _
                  | exact (hHeld.alloc _).alloc _
              replace hHeld := hHeld'
              clear hHeld' hK K
              simp only [Act.put, List.setIfInBounds_toArray, List.set_cons_zero, List.set_cons_succ]
              refine wpAnyH_ready (rs := [7]) (by kernel_rfl) (by simp) ?_
              refine hreg_event (o := _) rfl (by rfl) (fun K hK => ?_) ?_
              · go_simp
                first
                  | (rw [hC2.out]; go_simp)
                  | skip
                refine hK.out _ _ ?_ (fun hHeld' => ?_)
                · first
                    | exact ⟨BC2.mono (by omega), by omega⟩
                    | exact hHeld.setCell (Nat.le_refl _) _
                    | exact hHeld.next hb
                    | exact hHeld
                    | exact hHeld.alloc _
                    | exact hHeld.setCell (by simp <;> omega) _
                    | exact (hHeld.alloc _).alloc _
                replace hHeld := hHeld'
                clear hHeld' hK K
                simp only [Act.put, List.setIfInBounds_toArray, List.set_cons_zero, List.set_cons_succ]
                refine hreg_take (i := 8) rfl (by kernel_rfl) (by kernel_rfl) (by kernel_rfl) hreg_panic (by rfl) hHeld ?_
                apply Exists.intro
                refine ⟨fun w' hw' => ?_, ?_⟩
                · have hf := hall w' hw'
                  go_simp
                  try go_bits
                  exact yieldsV_mk rfl
                simp only [Act.put, List.setIfInBounds_toArray, List.set_cons_zero, List.set_cons_succ]
                refine wpAnyH_ready (rs := [9]) (by kernel_rfl) (by simp) ?_
                refine hreg_event (o := _) rfl (by rfl) (fun K hK => ?_) ?_
                · go_simp
                  first
                    | (obtain ⟨⟨j1, j2, j3⟩, jr, jb, jl⟩ := hfin wC2 uC2 nC2 cC2 BC2; go_simp)
                    | skip
                  refine hK.out _ _ ?_ (fun hHeld' => ?_)
                  · first
                      | exact hHeld.setCell (Nat.le_refl _) _
                      | exact hHeld.next hb
                      | exact hHeld
                      | exact hHeld.alloc _
                      | exact hHeld.setCell (by simp <;> omega) _
                      | exact (hHeld.alloc _).alloc _
                  replace hHeld := hHeld'
                  clear hHeld' hK K
                  simp only [Act.put, List.setIfInBounds_toArray, List.set_cons_zero, List.set_cons_succ]
                  refine wpAnyH_done (by kernel_rfl) ?_ _
                  refine NoPanic.normal ?_
                  exact hcont2 _ _ _ _ _ _ _ _ _ uC2 nC2 cC2 _ jb jr (by rw [mC.out, hli]) jl
                exact AllReadyH.nil
              exact AllReadyH.nil
            exact AllReadyH.nil
          exact AllReadyH.nil
        exact AllReadyH.nil
    have hln : notesL.length = t.notes.len := hN.1.symm
    have hnb : notesL.length ≤ 1000000 := by rw [hln]; exact hS.2.2.2
    have one32 : ∀ (w : World), SL keyC 32 (w.alloc (.cells (keyC k).toArray 32)) (some ⟨w.heap.size, 0, none⟩) 1 1 [k] := fun w => by
      have := (Own.new keyC_length w w.heap.size [k] 32 (Nat.le_refl _) (by unfold maxLen; simp)).sl'.2
      rw [rows_one] at this
      exact this
    have hBz0 : Below w2.heap.size w2 (w2.alloc (.cells (txC t).toArray 35)) := (Below.refl _ _).alloc (Nat.le_refl _) _
    have U0 : rowOf (w2.alloc (.cells (txC t).toArray 35)) w2.heap.size 0 38 = some (txC t) := rowOf_alloc_new _ _ _ _ _ _ rfl (txC_length t)
    have P0 : canPut (w2.alloc (.cells (txC t).toArray 35)) w2.heap.size 0 38 = true := canPut_alloc_new _ _ _ _ _ _ rfl (by rw [txC_length]; exact Nat.le_refl _)
    obtain ⟨wz, hwz⟩ : ∃ wz, wz = w2.alloc (.cells (txC t).toArray 35) := ⟨_, rfl⟩
    have hszz : wz.heap.size = w2.heap.size + 1 := by rw [hwz]; simp
    rw [← hwz] at hBz0 U0 P0 ⊢
    replace hwz := Box.mk hwz
    have hBzW := since_next hB2 hBz0
    have hNz : SL keyC 32 wz t.notes.a t.notes.len t.notes.cap notesL := hN.below (hB0.trans (hBzW.mono (by omega)))
    have hw2s : w0.heap.size ≤ w2.heap.size := hB2.size
    have hlz : w2.heap.size < wz.heap.size := by omega
    replace hszz := Box.mk hszz

    obtain ⟨uA, nA, cA, wA, hA1, oA1, bA1, sA1, lA1, _⟩ := app_kk (w := (wz.alloc (.cells #[] 32)).drew) (base := wz.heap.size) (ty := 33) ((Own.empty keyC 32 32 wz wz.heap.size wz.heap.size rfl (Nat.le_refl _)).congr fun _ _ _ => rfl) (by simp) t.notes.a t.notes.len t.notes.cap notesL (hNz.below (((Below.refl _ _).alloc (Nat.le_refl _) _).drew)) (by simp <;> omega)
    have BA1 : Below wz.heap.size wz wA := (((Below.refl _ _).alloc (Nat.le_refl _) _).drew).trans bA1
    obtain ⟨uA2, nA2, cA2, wA2, hA2, oA2, bA2, sA2, lA2, _⟩ := app_kk (w := wA.alloc (.cells (keyC k).toArray 32)) (base := wz.heap.size) (ty := 33) (oA1.below ((Below.refl _ _).alloc (Nat.le_refl _) _)) (Nat.le_trans BA1.size (by simp)) (some ⟨wA.heap.size, 0, none⟩) 1 1 [k] (one32 wA) (by simp <;> omega)
    have BA2 : Below wz.heap.size wz wA2 := (BA1.alloc BA1.size _).trans bA2
    have mA : nA2 = notesL.length + 1 := by simp at lA2; omega
    obtain ⟨uB, nB, cB, wB, hB1, oB1, bB1, sB1, lB1, kB1⟩ := app_kk (w := ((wz.alloc (.cells #[] 32)).alloc (.cells (keyC k).toArray 32)).drew) (base := wz.heap.size) (ty := 33) (((Own.empty keyC 32 32 wz wz.heap.size wz.heap.size rfl (Nat.le_refl _)).below ((Below.refl _ _).alloc (Nat.le_refl _) _)).congr fun _ _ _ => rfl) (by simp <;> omega) t.notes.a t.notes.len t.notes.cap notesL (hNz.below ((((Below.refl _ _).alloc (Nat.le_refl _) _).alloc (by simp) _).drew)) (by simp <;> omega)
    have BB1 : Below wz.heap.size wz wB := ((((Below.refl _ _).alloc (Nat.le_refl _) _).alloc (by simp) _).drew).trans bB1
    have EB : SL keyC 32 wB (some ⟨wz.heap.size + 1, 0, none⟩) 1 1 [k] := by
      have h1 := one32 (wz.alloc (.cells #[] 32))
      rw [World.size_alloc] at h1
      obtain ⟨q1, q2, q3, q4, q5⟩ := h1
      refine ⟨q1, q2, q3, q4, fun hne => ?_⟩
      obtain ⟨b, o, e, hb, hr⟩ := q5 hne
      injection e with e
      injection e with e1 e2
      subst e1 e2
      have hs : wz.heap.size + 1 < wB.heap.size := by simp at sB1; omega
      refine ⟨_, _, rfl, hs, ?_⟩
      rw [rowOf_congr (kB1 _ (by simp) (by simp [Value.ownBlock]))]
      exact hr
    obtain ⟨uB2, nB2, cB2, wB2, hB2', oB2, bB2, sB2, lB2, _⟩ := app_kk (w := wB) (base := wz.heap.size) (ty := 33) oB1 BB1.size (some ⟨wz.heap.size + 1, 0, none⟩) 1 1 [k] EB (by simp <;> omega)
    have BB2 : Below wz.heap.size wz wB2 := BB1.trans bB2
    have mB : nB2 = notesL.length + 1 := by simp at lB2; omega
    obtain ⟨uC, nC, cC, wC, hC1, oC1, bC1, sC1, lC1, _⟩ := app_kk (w := ((wz.alloc (.cells (keyC k).toArray 32)).alloc (.cells #[] 32)).drew) (base := wz.heap.size + 1) (ty := 33) ((Own.empty keyC 32 32 (wz.alloc (.cells (keyC k).toArray 32)) (wz.heap.size + 1) (wz.heap.size + 1) (by simp) (Nat.le_refl _)).congr fun _ _ _ => rfl) (by simp <;> omega) t.notes.a t.notes.len t.notes.cap notesL (hNz.below ((((Below.refl _ _).alloc (Nat.le_refl _) _).alloc (by simp) _).drew)) (by simp <;> omega)
    have BC1 : Below wz.heap.size wz wC := ((((Below.refl _ _).alloc (Nat.le_refl _) _).alloc (by simp) _).drew).trans (bC1.mono (by omega))
    have EC : SL keyC 32 wC (some ⟨wz.heap.size, 0, none⟩) 1 1 [k] := by
      have h1 := one32 wz
      obtain ⟨q1, q2, q3, q4, q5⟩ := h1
      refine ⟨q1, q2, q3, q4, fun hne => ?_⟩
      obtain ⟨b, o, e, hb, hr⟩ := q5 hne
      injection e with e
      injection e with e1 e2
      subst e1 e2
      have hs : wz.heap.size < wC.heap.size := by simp at sC1; omega
      refine ⟨_, _, rfl, hs, ?_⟩
      rw [rowOf_congr (bC1.block _ (by omega)), rowOf_drew, rowOf_alloc_old _ _ _ _ _ (by simp)]
      exact hr
    obtain ⟨uC2, nC2, cC2, wC2, hC2, oC2, bC2, sC2, lC2, _⟩ := app_kk (w := wC) (base := wz.heap.size + 1) (ty := 33) oC1 (by simp at sC1; omega) (some ⟨wz.heap.size, 0, none⟩) 1 1 [k] EC (by simp <;> omega)
    have BC2 : Below wz.heap.size wz wC2 := BC1.trans (bC2.mono (by omega))
    have mC : nC2 = notesL.length + 1 := by simp at lC2; omega
    replace hA1 := Box.mk hA1
    replace hA2 := Box.mk hA2
    replace hB1 := Box.mk hB1
    replace hB2' := Box.mk hB2'
    replace hC1 := Box.mk hC1
    replace hC2 := Box.mk hC2
    replace mA := Box.mk mA
    replace mB := Box.mk mB
    replace mC := Box.mk mC
    clear oA1 oA2 oB1 oB2 oC1 oC2 kB1 bA1 bA2 bB1 bB2 bC1 bC2 lA1 lA2 lB1 lB2 lC1 lC2 EB EC sA1 sA2 sB1 sB2 sC1 sC2

    have hfin : ∀ (wX : World) (u : Option Addr) (n c : Nat), Below wz.heap.size wz wX → (wX.cell? ⟨w2.heap.size, 36, none⟩ = some (.slice t.notes.a t.notes.len t.notes.cap) ∧ wX.frozen? ⟨w2.heap.size, 36, none⟩ = false ∧ w2.heap.size < wX.heap.size) ∧ rowOf (wX.setCell ⟨w2.heap.size, 36, none⟩ (.slice u n c)) w2.heap.size 0 38 = some (txC { t with notes := ⟨u, n, c⟩ }) ∧ Below w0.heap.size w0 (wX.setCell ⟨w2.heap.size, 36, none⟩ (.slice u n c)) ∧ w2.heap.size < (wX.setCell ⟨w2.heap.size, 36, none⟩ (.slice u n c)).heap.size := by
      intro wX u n c hX
      have hrow : rowOf wX w2.heap.size 0 38 = some (txC t) := by rw [rowOf_congr (hX.block _ (by omega))]; exact U0
      have hput : canPut wX w2.heap.size 0 38 = true := by rw [canPut_congr (hX.block _ (by omega))]; exact P0
      have hs := hX.size
      have hp36 := canPut_there.1 hput 36 (by omega)
      rw [Nat.zero_add] at hp36
      refine ⟨⟨(tx_facts hrow).2, hp36.2, by omega⟩, ?_, ?_, by simp [World.setCell]; omega⟩
      · rw [row_setCell hrow hput (by omega) _ rfl]
        exact congrArg some (txC_notes t ⟨u, n, c⟩)
      · exact Below.setCell (hBzW.trans (hX.mono (by omega))) hw2s _
    have hall : ∀ w', SinceB w2.heap.size wz w' → (w'.cell? ⟨W.heap.size, 36, none⟩ = some (.slice t.notes.a t.notes.len t.notes.cap) ∧ rowOf w' (W.heap.size + 1) 0 32 = some (keyC k) ∧ W.heap.size < w'.heap.size ∧ W.heap.size + 1 < w'.heap.size ∧ w2.heap.size < w'.heap.size) := fun w' h => by
      have hh := hF.out w' (hBzW.trans (h.out.mono hw2s))
      exact ⟨(tx_facts hh.1).2, hh.2.1, hh.2.2.1, hh.2.2.2, by have := h.size; omega⟩
    refine hreg_begin (S := SinceB w2.heap.size wz) (by kernel_rfl) (SinceB.refl (by omega)).drew (fun hHeld => ?_)
    simp only [List.length_cons, List.length_nil, Nat.zero_add, Nat.reduceAdd, Array.replicate]
    refine hreg_take (i := 1) rfl (by kernel_rfl) (by kernel_rfl) (by kernel_rfl) hreg_panic (by rfl) hHeld ?_
    apply Exists.intro
    refine ⟨fun w' hw' => ?_, ?_⟩
    · have hf := hall w' hw'
      go_simp
      try go_bits
      exact yieldsV_mk rfl
    simp only [Act.put, List.setIfInBounds_toArray, List.set_cons_zero, List.set_cons_succ]
    refine hreg_take (i := 2) rfl (by kernel_rfl) (by kernel_rfl) (by kernel_rfl) hreg_panic (by rfl) hHeld ?_
    apply Exists.intro
    refine ⟨fun w' hw' => ?_, ?_⟩
    · have hf := hall w' hw'
      go_simp
      try go_bits
      exact yieldsV_mk rfl
    simp only [Act.put, List.setIfInBounds_toArray, List.set_cons_zero, List.set_cons_succ]
    refine hreg_take (i := 4) rfl (by kernel_rfl) (by kernel_rfl) (by kernel_rfl) hreg_panic (by rfl) hHeld ?_
    apply Exists.intro
    refine ⟨fun w' hw' => ?_, ?_⟩
    · have hf := hall w' hw'
      go_simp
      try go_bits
      exact yieldsV_mk rfl
    simp only [Act.put, List.setIfInBounds_toArray, List.set_cons_zero, List.set_cons_succ]
    refine wpAnyH_ready (rs := [0, 5]) (by kernel_rfl) (by simp) ?_
    refine hreg_event (o := _) rfl (by rfl) (fun K hK => ?_) ?_
    · go_simp
      first
        | skip
      refine hK.out _ _ ?_ (fun hHeld' => ?_)
      · first
          | exact hHeld.setCell (Nat.le_refl _) _
          | exact hHeld.next hb
          | exact hHeld
          | exact hHeld.alloc _
          | exact hHeld.setCell (by simp <;> omega) _
          | exact (hHeld.alloc _).alloc _
      replace hHeld := hHeld'
      clear hHeld' hK K
      simp only [Act.put, List.setIfInBounds_toArray, List.set_cons_zero, List.set_cons_succ]
      refine wpAnyH_ready (rs := [3, 5]) (by kernel_rfl) (by simp) ?_
      refine hreg_event (o := _) rfl (by rfl) (fun K hK => ?_) ?_
      · go_simp
        first
          | (rw [hA1.out]; go_simp)
          | skip
        refine hK.out _ _ ?_ (fun hHeld' => ?_)
        · first
            | exact ⟨BA1.mono (by omega), by omega⟩
            | exact hHeld.setCell (Nat.le_refl _) _
            | exact hHeld.next hb
            | exact hHeld
            | exact hHeld.alloc _
            | exact hHeld.setCell (by simp <;> omega) _
            | exact (hHeld.alloc _).alloc _
        replace hHeld := hHeld'
        clear hHeld' hK K
        simp only [Act.put, List.setIfInBounds_toArray, List.set_cons_zero, List.set_cons_succ]
        refine wpAnyH_ready (rs := [5]) (by kernel_rfl) (by simp) ?_
        refine hreg_event (o := _) rfl (by rfl) (fun K hK => ?_) ?_
        · go_simp
          first
            | skip
          refine hK.out _ _ ?_ (fun hHeld' => ?_)
          · first
              | exact hHeld.setCell (Nat.le_refl _) _
              | exact hHeld.next hb
              | exact hHeld
              | exact hHeld.alloc _
              | exact hHeld.setCell (by simp <;> omega) _
              | exact (hHeld.alloc _).alloc _
          replace hHeld := hHeld'
          clear hHeld' hK K
          simp only [Act.put, List.setIfInBounds_toArray, List.set_cons_zero, List.set_cons_succ]
          refine wpAnyH_ready (rs := [6]) (by kernel_rfl) (by simp) ?_
          refine hreg_event (o := _) rfl (by rfl) (fun K hK => ?_) ?_
          · go_simp
            first
              | (rw [hA2.out]; go_simp)
              | skip
            refine hK.out _ _ ?_ (fun hHeld' => ?_)
            · first
                | exact ⟨BA2.mono (by omega), by omega⟩
                | exact hHeld.setCell (Nat.le_refl _) _
                | exact hHeld.next hb
                | exact hHeld
                | exact hHeld.alloc _
                | exact hHeld.setCell (by simp <;> omega) _
                | exact (hHeld.alloc _).alloc _
            replace hHeld := hHeld'
            clear hHeld' hK K
            simp only [Act.put, List.setIfInBounds_toArray, List.set_cons_zero, List.set_cons_succ]
            refine hreg_take (i := 7) rfl (by kernel_rfl) (by kernel_rfl) (by kernel_rfl) hreg_panic (by rfl) hHeld ?_
            apply Exists.intro
            refine ⟨fun w' hw' => ?_, ?_⟩
            · have hf := hall w' hw'
              go_simp
              try go_bits
              exact yieldsV_mk rfl
            simp only [Act.put, List.setIfInBounds_toArray, List.set_cons_zero, List.set_cons_succ]
            refine wpAnyH_ready (rs := [8]) (by kernel_rfl) (by simp) ?_
            refine hreg_event (o := _) rfl (by rfl) (fun K hK => ?_) ?_
            · go_simp
              first
                | (obtain ⟨⟨j1, j2, j3⟩, jr, jb, jl⟩ := hfin wA2 uA2 nA2 cA2 BA2; go_simp)
                | skip
              refine hK.out _ _ ?_ (fun hHeld' => ?_)
              · first
                  | exact hHeld.setCell (Nat.le_refl _) _
                  | exact hHeld.next hb
                  | exact hHeld
                  | exact hHeld.alloc _
                  | exact hHeld.setCell (by simp <;> omega) _
                  | exact (hHeld.alloc _).alloc _
              replace hHeld := hHeld'
              clear hHeld' hK K
              simp only [Act.put, List.setIfInBounds_toArray, List.set_cons_zero, List.set_cons_succ]
              refine wpAnyH_done (by kernel_rfl) ?_ _
              refine NoPanic.normal ?_
              exact hcont _ _ _ _ _ _ _ _ uA2 nA2 cA2 _ jb jl jr (by rw [mA.out, hln])
            exact AllReadyH.nil
          exact AllReadyH.nil
        exact AllReadyH.nil
      refine hreg_event (o := _) rfl (by rfl) (fun K hK => ?_) ?_
      · go_simp
        first
          | skip
        refine hK.out _ _ ?_ (fun hHeld' => ?_)
        · first
            | exact hHeld.setCell (Nat.le_refl _) _
            | exact hHeld.next hb
            | exact hHeld
            | exact hHeld.alloc _
            | exact hHeld.setCell (by simp <;> omega) _
            | exact (hHeld.alloc _).alloc _
        replace hHeld := hHeld'
        clear hHeld' hK K
        simp only [Act.put, List.setIfInBounds_toArray, List.set_cons_zero, List.set_cons_succ]
        refine wpAnyH_ready (rs := [3]) (by kernel_rfl) (by simp) ?_
        refine hreg_event (o := _) rfl (by rfl) (fun K hK => ?_) ?_
        · go_simp
          first
            | (rw [hB1.out]; go_simp)
            | skip
          refine hK.out _ _ ?_ (fun hHeld' => ?_)
          · first
              | exact ⟨BB1.mono (by omega), by omega⟩
              | exact hHeld.setCell (Nat.le_refl _) _
              | exact hHeld.next hb
              | exact hHeld
              | exact hHeld.alloc _
              | exact hHeld.setCell (by simp <;> omega) _
              | exact (hHeld.alloc _).alloc _
          replace hHeld := hHeld'
          clear hHeld' hK K
          simp only [Act.put, List.setIfInBounds_toArray, List.set_cons_zero, List.set_cons_succ]
          refine wpAnyH_ready (rs := [6]) (by kernel_rfl) (by simp) ?_
          refine hreg_event (o := _) rfl (by rfl) (fun K hK => ?_) ?_
          · go_simp
            first
              | (rw [hB2'.out]; go_simp)
              | skip
            refine hK.out _ _ ?_ (fun hHeld' => ?_)
            · first
                | exact ⟨BB2.mono (by omega), by omega⟩
                | exact hHeld.setCell (Nat.le_refl _) _
                | exact hHeld.next hb
                | exact hHeld
                | exact hHeld.alloc _
                | exact hHeld.setCell (by simp <;> omega) _
                | exact (hHeld.alloc _).alloc _
            replace hHeld := hHeld'
            clear hHeld' hK K
            simp only [Act.put, List.setIfInBounds_toArray, List.set_cons_zero, List.set_cons_succ]
            refine hreg_take (i := 7) rfl (by kernel_rfl) (by kernel_rfl) (by kernel_rfl) hreg_panic (by rfl) hHeld ?_
            apply Exists.intro
            refine ⟨fun w' hw' => ?_, ?_⟩
            · have hf := hall w' hw'
              go_simp
              try go_bits
              exact yieldsV_mk rfl
            simp only [Act.put, List.setIfInBounds_toArray, List.set_cons_zero, List.set_cons_succ]
            refine wpAnyH_ready (rs := [8]) (by kernel_rfl) (by simp) ?_
            refine hreg_event (o := _) rfl (by rfl) (fun K hK => ?_) ?_
            · go_simp
              first
                | (obtain ⟨⟨j1, j2, j3⟩, jr, jb, jl⟩ := hfin wB2 uB2 nB2 cB2 BB2; go_simp)
                | skip
              refine hK.out _ _ ?_ (fun hHeld' => ?_)
              · first
                  | exact hHeld.setCell (Nat.le_refl _) _
                  | exact hHeld.next hb
                  | exact hHeld
                  | exact hHeld.alloc _
                  | exact hHeld.setCell (by simp <;> omega) _
                  | exact (hHeld.alloc _).alloc _
              replace hHeld := hHeld'
              clear hHeld' hK K
              simp only [Act.put, List.setIfInBounds_toArray, List.set_cons_zero, List.set_cons_succ]
              refine wpAnyH_done (by kernel_rfl) ?_ _
              refine NoPanic.normal ?_
              exact hcont _ _ _ _ _ _ _ _ uB2 nB2 cB2 _ jb jl jr (by rw [mB.out, hln])
            exact AllReadyH.nil
          exact AllReadyH.nil
        exact AllReadyH.nil
      exact AllReadyH.nil
    refine hreg_event (o := _) rfl (by rfl) (fun K hK => ?_) ?_
    · go_simp
      first
        | skip
      refine hK.out _ _ ?_ (fun hHeld' => ?_)
      · first
          | exact hHeld.setCell (Nat.le_refl _) _
          | exact hHeld.next hb
          | exact hHeld
          | exact hHeld.alloc _
          | exact hHeld.setCell (by simp <;> omega) _
          | exact (hHeld.alloc _).alloc _
      replace hHeld := hHeld'
      clear hHeld' hK K
      simp only [Act.put, List.setIfInBounds_toArray, List.set_cons_zero, List.set_cons_succ]
      refine wpAnyH_ready (rs := [0]) (by kernel_rfl) (by simp) ?_
      refine hreg_event (o := _) rfl (by rfl) (fun K hK => ?_) ?_
      · go_simp
        first
          | skip
        refine hK.out _ _ ?_ (fun hHeld' => ?_)
        · first
            | exact hHeld.setCell (Nat.le_refl _) _
            | exact hHeld.next hb
            | exact hHeld
            | exact hHeld.alloc _
            | exact hHeld.setCell (by simp <;> omega) _
            | exact (hHeld.alloc _).alloc _
        replace hHeld := hHeld'
        clear hHeld' hK K
        simp only [Act.put, List.setIfInBounds_toArray, List.set_cons_zero, List.set_cons_succ]
        refine wpAnyH_ready (rs := [3]) (by kernel_rfl) (by simp) ?_
        refine hreg_event (o := _) rfl (by rfl) (fun K hK => ?_) ?_
        · go_simp
          first
            | (rw [hC1.out]; go_simp)
            | skip
          refine hK.out _ _ ?_ (fun hHeld' => ?_)
          · first
              | exact ⟨BC1.mono (by omega), by omega⟩
              | exact hHeld.setCell (Nat.le_refl _) _
              | exact hHeld.next hb
              | exact hHeld
              | exact hHeld.alloc _
              | exact hHeld.setCell (by simp <;> omega) _
              | exact (hHeld.alloc _).alloc _
          replace hHeld := hHeld'
          clear hHeld' hK K
          simp only [Act.put, List.setIfInBounds_toArray, List.set_cons_zero, List.set_cons_succ]
          refine wpAnyH_ready (rs := [6]) (by kernel_rfl) (by simp) ?_
          refine hreg_event (o := _) rfl (by rfl) (fun K hK => ?_) ?_
          · go_simp
            first
              | (rw [hC2.out]; go_simp)
              | skip
            refine hK.out _ _ ?_ (fun hHeld' => ?_)
            · first
                | exact ⟨BC2.mono (by omega), by omega⟩
                | exact hHeld.setCell (Nat.le_refl _) _
                | exact hHeld.next hb
                | exact hHeld
                | exact hHeld.alloc _
                | exact hHeld.setCell (by simp <;> omega) _
                | exact (hHeld.alloc _).alloc _
            replace hHeld := hHeld'
            clear hHeld' hK K
            simp only [Act.put, List.setIfInBounds_toArray, List.set_cons_zero, List.set_cons_succ]
            refine hreg_take (i := 7) rfl (by kernel_rfl) (by kernel_rfl) (by kernel_rfl) hreg_panic (by rfl) hHeld ?_
            apply Exists.intro
            refine ⟨fun w' hw' => ?_, ?_⟩
            · have hf := hall w' hw'
              go_simp
              try go_bits
              exact yieldsV_mk rfl
            simp only [Act.put, List.setIfInBounds_toArray, List.set_cons_zero, List.set_cons_succ]
            refine wpAnyH_ready (rs := [8]) (by kernel_rfl) (by simp) ?_
            refine hreg_event (o := _) rfl (by rfl) (fun K hK => ?_) ?_
            · go_simp
              first
                | (obtain ⟨⟨j1, j2, j3⟩, jr, jb, jl⟩ := hfin wC2 uC2 nC2 cC2 BC2; go_simp)
                | skip
              refine hK.out _ _ ?_ (fun hHeld' => ?_)
              · first
                  | exact hHeld.setCell (Nat.le_refl _) _
                  | exact hHeld.next hb
                  | exact hHeld
                  | exact hHeld.alloc _
                  | exact hHeld.setCell (by simp <;> omega) _
                  | exact (hHeld.alloc _).alloc _
              replace hHeld := hHeld'
              clear hHeld' hK K
              simp only [Act.put, List.setIfInBounds_toArray, List.set_cons_zero, List.set_cons_succ]
              refine wpAnyH_done (by kernel_rfl) ?_ _
              refine NoPanic.normal ?_
              exact hcont _ _ _ _ _ _ _ _ uC2 nC2 cC2 _ jb jl jr (by rw [mC.out, hln])
            exact AllReadyH.nil
          exact AllReadyH.nil
        exact AllReadyH.nil
      exact AllReadyH.nil
    exact AllReadyH.nil
  · go_enter Try.func4, Try.ntmps4
    go_wp2_with fail
    have hB0 : Below W.heap.size W ((W.alloc (.cells (txC t).toArray 35)).alloc (.cells (keyC k).toArray 32)) := ((Below.refl _ _).alloc (Nat.le_refl _) _).alloc (by simp) _
    refine (heavy_any t _).mono ?_
    rintro e w1 ⟨rfl, hb1⟩
    rw [hv]
    go_wp2_with fail
    refine (shown13 _).mono ?_
    rintro e w2 ⟨rfl, hb2⟩
    go_wp2
    go_ret
    exact gives_bool rfl (since_next (since_next hB0 hb1) hb2)

end Go.Proofs.Ytoojmcijldlinaa
