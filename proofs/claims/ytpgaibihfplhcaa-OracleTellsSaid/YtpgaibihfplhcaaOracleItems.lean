/- Layer 15: a transaction has as many items as it has inputs, nullifiers and notes. -/
import Derived.Test.YtpgaibihfplhcaaOracle2
import Derived.Test.YtpgaibihfplhcaaKeys3
import Derived.Test.YtpgaibihfplhcaaTx
namespace Go.Proofs.Ytpgaibihfplhcaa
open Go.RowKit
set_option linter.unusedVariables false
set_option linter.unusedSimpArgs false
attribute [local irreducible] Int.lt Int.le
attribute [local go_sem ↓] load_key store_key alloc_key build0_key one_key eq_key build1_key load_tx store_tx alloc_tx build0_tx
attribute [local go_sem] rowOf_drew rowOf_alloc_old rowOf_alloc_new canPut_drew canPut_alloc_old canPut_alloc_new setCells_alloc_new

set_option maxHeartbeats 400000 in
theorem items_any (t : TxV) (w : World) (h : (t.ins.len : Int) + t.nulls.len + t.notes.len ≤ 4611686018427387904) : Calls Try.prog 23 #[.agg (txC t).toArray] w (Gives (.int .i64 ((t.ins.len : Int) + t.nulls.len + t.notes.len)) w) := by
  have h1 := IntWalk.i64_in ((t.ins.len : Int) + t.nulls.len) (by omega)
  have h2 := IntWalk.i64_in ((t.ins.len : Int) + t.nulls.len + t.notes.len) (by omega)
  clear h
  go_enter Try.func23, Try.ntmps23
  go_wp2
  go_ret
  refine gives_int ?_ ((Below.refl _ _).alloc (by simp) _)
  first | exact h2 | (rw [h1, h2]) | (rw [h2]) | rfl

set_option maxHeartbeats 400000 in
theorem ritems_any (t : TxV) (w : World) (h : (t.ins.len : Int) + t.nulls.len + t.notes.len ≤ 4611686018427387904) : Calls Try.prog 24 #[.agg (txC t).toArray] w (Gives (.int .i64 ((t.ins.len : Int) + t.nulls.len + t.notes.len)) w) := by
  have h1 := IntWalk.i64_in ((t.ins.len : Int) + t.nulls.len) (by omega)
  have h2 := IntWalk.i64_in ((t.ins.len : Int) + t.nulls.len + t.notes.len) (by omega)
  clear h
  go_enter Try.func24, Try.ntmps24
  go_wp2
  go_ret
  refine gives_int ?_ ((Below.refl _ _).alloc (by simp) _)
  first | exact h2 | (rw [h1, h2]) | (rw [h2]) | rfl

theorem good_low (k : Key) (m : Int) (W : World) (hm : m ≤ 0) : Calls Try.prog 19 #[.agg (keyC k).toArray, .int .i64 m] W (VPost [] W) := by
  by_cases h : m = 0
  · subst h
    exact good_any k 0 W (by omega)
  · exact good_none k m W (Or.inl (by omega))

theorem allB_low (l : List Verd) (k : Key) (m : Int) (hm : m ≤ 0) : allB l k m = true := by
  unfold allB
  rw [show m.toNat = 0 from by omega]; rfl
theorem allB_mono {l : List Verd} {k : Key} (h : allB l k 3 = true) : allB l k 2 = true := by
  show allB l k ((2 : Nat) : Int) = true
  refine allB_true fun i hi => ?_
  cases e : lookL l k i with
  | true => rfl
  | false => rw [show (3 : Int) = ((3 : Nat) : Int) from rfl, allB_false (i := i) (m := 3) (by omega) e] at h; cases h
theorem all_good (k : Key) (m : Nat) : allB (goodL k m) k m = true := allB_true fun i hi => by rw [lookL_good]; simpa using hi

/-- The cells of a transaction that hold its lists. -/
theorem tx_cells {w : World} {b : Nat} {t : TxV} (h : rowOf w b 0 38 = some (txC t)) : w.cell? ⟨b, 1, none⟩ = some (.slice t.ins.a t.ins.len t.ins.cap) ∧ w.cell? ⟨b, 35, none⟩ = some (.slice t.nulls.a t.nulls.len t.nulls.cap) ∧ w.cell? ⟨b, 36, none⟩ = some (.slice t.notes.a t.notes.len t.notes.cap) := by
  have hr := (rowOf_some.1 h).2
  have h1 := hr 1 _ (txC_1 t)
  have h2 := hr 35 _ (txC_35 t)
  have h3 := hr 36 _ (txC_36 t)
  rw [Nat.zero_add] at h1 h2 h3
  exact ⟨h1, h2, h3⟩

set_option maxHeartbeats 2000000 in
theorem oracleItems_walk (t : TxV) (a : Option Addr) (n c : Nat) (l : List Verd) (k : Key) (q : Int) (W : World) (h : VL W a n c l) (hq : -128 ≤ q ∧ q ≤ 127) (hN : (t.ins.len : Int) + t.nulls.len + t.notes.len ≤ 4611686018427387904) : Calls Try.prog 9 #[.agg (txC t).toArray, .slice a n c, .agg (keyC k).toArray, .int .i8 q] W (LawEnd W) := by
  have hl := Box.mk h.1
  have H := Box.mk h
  clear h
  by_cases hn : 200 < n
  · go_enter Try.func9, Try.ntmps9
    go_wp2_with fail
    refine (shown15 _).mono ?_
    rintro e w2 ⟨rfl, hb2⟩
    go_wp2
    go_ret
    exact gives_bool rfl (Below.of hb2 (by simp <;> omega) (((Below.refl _ _).alloc (Nat.le_refl _) _).alloc (by simp) _))
  · have hn2 : n ≤ 100000 := by omega
    go_enter Try.func9, Try.ntmps9
    go_wp2_with fail
    have hB0 : Below W.heap.size W ((W.alloc (.cells (txC t).toArray 47)).alloc (.cells (keyC k).toArray 23)) := ((Below.refl _ _).alloc (Nat.le_refl _) _).alloc (by simp) _
    have T0 : rowOf ((W.alloc (.cells (txC t).toArray 47)).alloc (.cells (keyC k).toArray 23)) W.heap.size 0 38 = some (txC t) := by simp [go_sem]
    have K0 : rowOf ((W.alloc (.cells (txC t).toArray 47)).alloc (.cells (keyC k).toArray 23)) (W.heap.size + 1) 0 32 = some (keyC k) := rowOf_alloc_new _ _ _ _ _ _ (by simp) (keyC_length k)
    obtain ⟨w0, hw0⟩ : ∃ w0, w0 = (W.alloc (.cells (txC t).toArray 47)).alloc (.cells (keyC k).toArray 23) := ⟨_, rfl⟩
    have hsz0 : w0.heap.size = W.heap.size + 2 := by rw [hw0]; simp
    rw [← hw0] at hB0 T0 K0 ⊢
    replace hw0 := Box.mk hw0
    have hF : ∀ w', Below w0.heap.size w0 w' → (rowOf w' W.heap.size 0 38 = some (txC t) ∧ rowOf w' (W.heap.size + 1) 0 32 = some (keyC k) ∧ W.heap.size < w'.heap.size ∧ W.heap.size + 1 < w'.heap.size ∧ w'.cell? ⟨W.heap.size, 1, none⟩ = some (.slice t.ins.a t.ins.len t.ins.cap) ∧ w'.cell? ⟨W.heap.size, 35, none⟩ = some (.slice t.nulls.a t.nulls.len t.nulls.cap) ∧ w'.cell? ⟨W.heap.size, 36, none⟩ = some (.slice t.notes.a t.notes.len t.notes.cap)) := fun w' h => by
      have hT : rowOf w' W.heap.size 0 38 = some (txC t) := by rw [rowOf_congr (h.block _ (by omega))]; exact T0
      obtain ⟨q1, q2, q3⟩ := tx_cells hT
      exact ⟨hT, by rw [rowOf_congr (h.block _ (by omega))]; exact K0, by have := h.size; omega, by have := h.size; omega, q1, q2, q3⟩
    replace hF := Box.mk hF
    clear T0 K0
    obtain ⟨m, hm⟩ : ∃ m : Nat, m = t.ins.len + t.nulls.len + t.notes.len := ⟨_, rfl⟩
    have hmI : (t.ins.len : Int) + t.nulls.len + t.notes.len = (m : Int) := by omega
    have hm1 := IntWalk.i64_in ((t.ins.len : Int) + t.nulls.len) (by omega)
    have hm2 := IntWalk.i64_in ((t.ins.len : Int) + t.nulls.len + t.notes.len) (by omega)
    have hmN : (m : Int) ≤ 4611686018427387904 := by omega
    have C0 := Box.mk (fun (w' : World) => items_any t w' hN)
    replace hm := Box.mk hm
    replace hN := Box.mk hN
    refine (shown15 _).mono ?_
    rintro e w1 ⟨rfl, hb1⟩
    obtain ⟨x1, x2, x3, x4, x5, x6, x7⟩ := hF.out w1 hb1
    go_wp2_with fail
    refine (C0.out _).mono ?_
    rintro e w2 ⟨rfl, hb2⟩
    rw [hmI]
    have hB2 := since_next hb1 hb2
    obtain ⟨y1, y2, y3, y4, y5, y6, y7⟩ := hF.out w2 hB2
    clear x1 x2 x3 x4 x5 x6 x7
    by_cases hbig : (1000 : Int) < (m : Int)
    · go_wp2_with fail
      refine (good_none k m _ (Or.inr hbig)).mono ?_
      rintro e w3 ⟨ag, ng, cg, rfl, hG, hng, hb3, _⟩
      have hB3 := since_next hB2 hb3
      obtain ⟨z1, z2, z3, z4, z5, z6, z7⟩ := hF.out w3 hB3
      clear y1 y2 y3 y4 y5 y6 y7
      have hpw : IntKind.i64.wrap q = q := IntWalk.i64_in q (by omega)
      have hLw3 : VL w3 a n c l := H.out.below (hB0.trans (hB3.mono (by omega)))
      by_cases hq0 : 0 < q
      · have hp0 : (0 : Int) ≤ 0 := by omega
        as_aux_lemma =>
          go_wp2_with fail
          refine (all_any a n c l k 0 w3 hLw3 hn2 (by omega)).mono ?_
          rintro e w4 ⟨rfl, hb4⟩
          rw [allB_low l k 0 hp0]
          have hB4 := since_next hB3 hb4
          have hLw4 := hLw3.below hb4
          obtain ⟨u1, u2, u3, u4, u5, u6, u7⟩ := hF.out w4 hB4
          clear z1 z2 z3 z4 z5 z6 z7
          replace hLw4 := Box.mk hLw4
          clear hLw3
          go_wp2_with fail
          refine (good_low k 0 _ hp0).mono ?_
          rintro e w5 ⟨a5, n5, c5, rfl, _, hn5, hb5, _⟩
          replace hn5 : n5 = 0 := hn5
          subst hn5
          have hB5 := since_next hB4 hb5
          obtain ⟨v1, v2, v3, v4, v5, v6, v7⟩ := hF.out w5 hB5
          clear u1 u2 u3 u4 u5 u6 u7
          go_wp2_with fail
          refine (good_none k 1001 _ (Or.inr (by omega))).mono ?_
          rintro e w6 ⟨a6, n6, c6, rfl, _, hn6, hb6, _⟩
          replace hn6 : n6 = 0 := hn6
          subst hn6
          have hB6 := since_next hB5 hb6
          obtain ⟨r1, r2, r3, r4, r5, r6, r7⟩ := hF.out w6 hB6
          clear v1 v2 v3 v4 v5 v6 v7
          have hL6 := Box.mk (hLw4.out.below (hb5.trans (hb6.mono hb5.size)))
          go_wp2_with fail
          refine (all_any a n c l k 3 _ hL6.out hn2 (by omega)).mono ?_
          rintro e w8 ⟨rfl, hb8⟩
          have hB8 := since_next hB6 hb8
          obtain ⟨t1, t2, t3, t4, t5, t6, t7⟩ := hF.out w8 hB8
          cases h3 : allB l k 3
          · go_wp2
            go_ret
            exact gives_bool rfl (hB0.trans (hB8.mono (by omega)))
          · go_wp2_with fail
            refine (all_any a n c l k 2 _ (hL6.out.below hb8) hn2 (by omega)).mono ?_
            rintro e w9 ⟨rfl, hb9⟩
            rw [allB_mono h3]
            go_wp2
            go_ret
            exact gives_bool rfl (hB0.trans ((since_next hB8 hb9).mono (by omega)))
      · have hp0 : (q : Int) ≤ 0 := by omega
        as_aux_lemma =>
          go_wp2_with fail
          refine (all_any a n c l k q w3 hLw3 hn2 (by omega)).mono ?_
          rintro e w4 ⟨rfl, hb4⟩
          rw [allB_low l k q hp0]
          have hB4 := since_next hB3 hb4
          have hLw4 := hLw3.below hb4
          obtain ⟨u1, u2, u3, u4, u5, u6, u7⟩ := hF.out w4 hB4
          clear z1 z2 z3 z4 z5 z6 z7
          replace hLw4 := Box.mk hLw4
          clear hLw3
          go_wp2_with fail
          refine (good_low k q _ hp0).mono ?_
          rintro e w5 ⟨a5, n5, c5, rfl, _, hn5, hb5, _⟩
          replace hn5 : n5 = 0 := hn5
          subst hn5
          have hB5 := since_next hB4 hb5
          obtain ⟨v1, v2, v3, v4, v5, v6, v7⟩ := hF.out w5 hB5
          clear u1 u2 u3 u4 u5 u6 u7
          go_wp2_with fail
          refine (good_none k 1001 _ (Or.inr (by omega))).mono ?_
          rintro e w6 ⟨a6, n6, c6, rfl, _, hn6, hb6, _⟩
          replace hn6 : n6 = 0 := hn6
          subst hn6
          have hB6 := since_next hB5 hb6
          obtain ⟨r1, r2, r3, r4, r5, r6, r7⟩ := hF.out w6 hB6
          clear v1 v2 v3 v4 v5 v6 v7
          have hL6 := Box.mk (hLw4.out.below (hb5.trans (hb6.mono hb5.size)))
          go_wp2_with fail
          refine (all_any a n c l k 3 _ hL6.out hn2 (by omega)).mono ?_
          rintro e w8 ⟨rfl, hb8⟩
          have hB8 := since_next hB6 hb8
          obtain ⟨t1, t2, t3, t4, t5, t6, t7⟩ := hF.out w8 hB8
          cases h3 : allB l k 3
          · go_wp2
            go_ret
            exact gives_bool rfl (hB0.trans (hB8.mono (by omega)))
          · go_wp2_with fail
            refine (all_any a n c l k 2 _ (hL6.out.below hb8) hn2 (by omega)).mono ?_
            rintro e w9 ⟨rfl, hb9⟩
            rw [allB_mono h3]
            go_wp2
            go_ret
            exact gives_bool rfl (hB0.trans ((since_next hB8 hb9).mono (by omega)))
    · go_wp2_with fail
      refine (good_any k m _ (by omega)).mono ?_
      rintro e w3 ⟨ag, ng, cg, rfl, hG, hng, hb3, _⟩
      rw [goodL_length] at hng
      subst hng
      replace hG := Box.mk hG
      have hB3 := since_next hB2 hb3
      obtain ⟨z1, z2, z3, z4, z5, z6, z7⟩ := hF.out w3 hB3
      clear y1 y2 y3 y4 y5 y6 y7
      have hpw : IntKind.i64.wrap q = q := IntWalk.i64_in q (by omega)
      have hLw3 : VL w3 a n c l := H.out.below (hB0.trans (hB3.mono (by omega)))
      by_cases hq0 : 0 < q
      · have hp0 : (0 : Int) ≤ 0 := by omega
        as_aux_lemma =>
          go_wp2_with fail
          refine (all_any a n c l k 0 w3 hLw3 hn2 (by omega)).mono ?_
          rintro e w4 ⟨rfl, hb4⟩
          rw [allB_low l k 0 hp0]
          have hB4 := since_next hB3 hb4
          have hLw4 := hLw3.below hb4
          obtain ⟨u1, u2, u3, u4, u5, u6, u7⟩ := hF.out w4 hB4
          clear z1 z2 z3 z4 z5 z6 z7
          replace hLw4 := Box.mk hLw4
          clear hLw3
          go_wp2_with fail
          refine (good_low k 0 _ hp0).mono ?_
          rintro e w5 ⟨a5, n5, c5, rfl, _, hn5, hb5, _⟩
          replace hn5 : n5 = 0 := hn5
          subst hn5
          have hB5 := since_next hB4 hb5
          obtain ⟨v1, v2, v3, v4, v5, v6, v7⟩ := hF.out w5 hB5
          clear u1 u2 u3 u4 u5 u6 u7
          go_wp2_with fail
          refine (good_none k 1001 _ (Or.inr (by omega))).mono ?_
          rintro e w6 ⟨a6, n6, c6, rfl, _, hn6, hb6, _⟩
          replace hn6 : n6 = 0 := hn6
          subst hn6
          have hB6 := since_next hB5 hb6
          obtain ⟨r1, r2, r3, r4, r5, r6, r7⟩ := hF.out w6 hB6
          clear v1 v2 v3 v4 v5 v6 v7
          have hL6 := Box.mk (hLw4.out.below (hb5.trans (hb6.mono hb5.size)))
          go_wp2_with fail
          refine (all_any ag ng cg (goodL k ng) k ng _ (hG.out.below (hb4.trans ((hb5.trans (hb6.mono hb5.size)).mono hb4.size))) (by omega) (by omega)).mono ?_
          rintro e w7 ⟨rfl, hb7⟩
          rw [all_good k ng]
          have hB7 := since_next hB6 hb7
          obtain ⟨s1, s2, s3, s4, s5, s6, s7⟩ := hF.out w7 hB7
          clear r1 r2 r3 r4 r5 r6 r7
          have hL7 := Box.mk (hL6.out.below hb7)
          go_wp2_with fail
          refine (all_any a n c l k 3 _ hL7.out hn2 (by omega)).mono ?_
          rintro e w8 ⟨rfl, hb8⟩
          have hB8 := since_next hB7 hb8
          obtain ⟨t1, t2, t3, t4, t5, t6, t7⟩ := hF.out w8 hB8
          cases h3 : allB l k 3
          · go_wp2
            go_ret
            exact gives_bool rfl (hB0.trans (hB8.mono (by omega)))
          · go_wp2_with fail
            refine (all_any a n c l k 2 _ (hL7.out.below hb8) hn2 (by omega)).mono ?_
            rintro e w9 ⟨rfl, hb9⟩
            rw [allB_mono h3]
            go_wp2
            go_ret
            exact gives_bool rfl (hB0.trans ((since_next hB8 hb9).mono (by omega)))
      · have hp0 : (q : Int) ≤ 0 := by omega
        as_aux_lemma =>
          go_wp2_with fail
          refine (all_any a n c l k q w3 hLw3 hn2 (by omega)).mono ?_
          rintro e w4 ⟨rfl, hb4⟩
          rw [allB_low l k q hp0]
          have hB4 := since_next hB3 hb4
          have hLw4 := hLw3.below hb4
          obtain ⟨u1, u2, u3, u4, u5, u6, u7⟩ := hF.out w4 hB4
          clear z1 z2 z3 z4 z5 z6 z7
          replace hLw4 := Box.mk hLw4
          clear hLw3
          go_wp2_with fail
          refine (good_low k q _ hp0).mono ?_
          rintro e w5 ⟨a5, n5, c5, rfl, _, hn5, hb5, _⟩
          replace hn5 : n5 = 0 := hn5
          subst hn5
          have hB5 := since_next hB4 hb5
          obtain ⟨v1, v2, v3, v4, v5, v6, v7⟩ := hF.out w5 hB5
          clear u1 u2 u3 u4 u5 u6 u7
          go_wp2_with fail
          refine (good_none k 1001 _ (Or.inr (by omega))).mono ?_
          rintro e w6 ⟨a6, n6, c6, rfl, _, hn6, hb6, _⟩
          replace hn6 : n6 = 0 := hn6
          subst hn6
          have hB6 := since_next hB5 hb6
          obtain ⟨r1, r2, r3, r4, r5, r6, r7⟩ := hF.out w6 hB6
          clear v1 v2 v3 v4 v5 v6 v7
          have hL6 := Box.mk (hLw4.out.below (hb5.trans (hb6.mono hb5.size)))
          go_wp2_with fail
          refine (all_any ag ng cg (goodL k ng) k ng _ (hG.out.below (hb4.trans ((hb5.trans (hb6.mono hb5.size)).mono hb4.size))) (by omega) (by omega)).mono ?_
          rintro e w7 ⟨rfl, hb7⟩
          rw [all_good k ng]
          have hB7 := since_next hB6 hb7
          obtain ⟨s1, s2, s3, s4, s5, s6, s7⟩ := hF.out w7 hB7
          clear r1 r2 r3 r4 r5 r6 r7
          have hL7 := Box.mk (hL6.out.below hb7)
          go_wp2_with fail
          refine (all_any a n c l k 3 _ hL7.out hn2 (by omega)).mono ?_
          rintro e w8 ⟨rfl, hb8⟩
          have hB8 := since_next hB7 hb8
          obtain ⟨t1, t2, t3, t4, t5, t6, t7⟩ := hF.out w8 hB8
          cases h3 : allB l k 3
          · go_wp2
            go_ret
            exact gives_bool rfl (hB0.trans (hB8.mono (by omega)))
          · go_wp2_with fail
            refine (all_any a n c l k 2 _ (hL7.out.below hb8) hn2 (by omega)).mono ?_
            rintro e w9 ⟨rfl, hb9⟩
            rw [allB_mono h3]
            go_wp2
            go_ret
            exact gives_bool rfl (hB0.trans ((since_next hB8 hb9).mono (by omega)))

end Go.Proofs.Ytpgaibihfplhcaa
