/- The contracts of the reference of layer 15, and of the law's own 'theirs'. -/
import Derived.Test.YtpgaibihfplhcaaOracle2
import Derived.Test.YtpgaibihfplhcaaVerdR
import Derived.Test.YtpgaibihfplhcaaKeys3
namespace Go.Proofs.Ytpgaibihfplhcaa
open Go.RowKit
set_option linter.unusedVariables false
set_option linter.unusedSimpArgs false
attribute [local irreducible] Int.lt Int.le
attribute [local go_sem ↓] load_key store_key alloc_key build0_key one_key eq_key build1_key load_ver load_rver store_rver alloc_rver one_rver append_rver build3_rver eq_rver
attribute [local go_sem] rowOf_drew rowOf_alloc_old rowOf_alloc_new canPut_drew canPut_alloc_old canPut_alloc_new setCells_alloc_new

theorem ver_fields {w : World} {b o : Nat} {v : Verd} (h : rowOf w b o 34 = some (verC v)) : rowOf w b o 32 = some (keyC v.tx) ∧ w.cell? ⟨b, o + 32, none⟩ = some (.int .i64 v.item) ∧ w.cell? ⟨b, o + 33, none⟩ = some (.bool v.good) := by
  have hr := (rowOf_some.1 h).2
  have e : verC v = keyC v.tx ++ [.int .i64 v.item, .bool v.good] := by unfold verC; rfl
  have hl := keyC_length v.tx
  refine ⟨rowOf_some.2 ⟨hl, fun j x hx => ?_⟩, ?_, ?_⟩
  · have hj : j < 32 := by have := (List.getElem?_eq_some_iff.1 hx).1; omega
    exact hr j x (by rw [e, List.getElem?_append_left (by omega)]; exact hx)
  · exact hr 32 _ (by rw [e, List.getElem?_append_right (by omega), hl]; rfl)
  · exact hr 33 _ (by rw [e, List.getElem?_append_right (by omega), hl]; rfl)

set_option maxHeartbeats 1000000 in
theorem rlook_any (a : Option Addr) (n c : Nat) (l : List Verd) (k : Key) (i0 : Int) (W : World) (h : VL W a n c l) (hn : n ≤ 100000) : Calls Try.prog 25 #[.slice a n c, .agg (keyC k).toArray, .int .i64 i0] W (Gives (.bool (lookL l k i0)) W) := by
  have hl := Box.mk h.1
  have H := Box.mk h
  have hcap := h.2.1
  clear h
  go_enter Try.func25, Try.ntmps25
  go_wp2_with fail
  have hB0 : Below W.heap.size W (W.alloc (.cells (keyC k).toArray 23)) := (Below.refl _ _).alloc (Nat.le_refl _) _
  have hr0 : rowOf (W.alloc (.cells (keyC k).toArray 23)) W.heap.size 0 32 = some (keyC k) := rowOf_alloc_new _ _ _ _ _ _ rfl (keyC_length k)
  obtain ⟨w1, hw1⟩ : ∃ w1, w1 = W.alloc (.cells (keyC k).toArray 23) := ⟨_, rfl⟩
  have hsz1 : w1.heap.size = W.heap.size + 1 := by rw [hw1]; simp
  rw [← hw1] at hB0 hr0 ⊢
  replace hw1 := Box.mk hw1
  go_loopw [7] (fun i wr => Below w1.heap.size w1 wr ∧ ∃ j : Nat, j ≤ n ∧ i = .int .i64 j ∧ lookL l k i0 = lookL (l.drop j) k i0) (fun i _ => n - (intOf i).toNat)
  case atStart => exact ⟨Below.refl _ _, 0, Nat.zero_le _, rfl, by rw [List.drop_zero]⟩
  case round =>
    obtain ⟨hbr, j, hj, rfl, hlk⟩ := hrel
    have hsz := hbr.size
    by_cases hlt : j < n
    · have hlt' : (j : Int) < (n : Int) := by omega
      have hjl : j < l.length := by rw [← hl.out]; exact hlt
      have hx : l[j]? = some l[j] := List.getElem?_eq_getElem hjl
      obtain ⟨b, o, rfl, hb, hr⟩ := SL.elem verC_length H.out hx
      have R1 : rowOf wr b (o + j * 34) 34 = some (verC l[j]) := by rw [rowOf_congr (hbr.block b (by omega)), rowOf_congr (hB0.block b hb)]; exact hr
      have R2 : rowOf wr W.heap.size 0 32 = some (keyC k) := by rw [rowOf_congr (hbr.block _ (by omega))]; exact hr0
      have s1 : b < wr.heap.size := by omega
      have s2 : W.heap.size < wr.heap.size := by omega
      have hd := lookL_drop hx k i0
      generalize l[j] = v at *
      obtain ⟨F1, F2, F3⟩ := ver_fields R1
      replace R1 := Box.mk R1
      replace hx := Box.mk hx
      replace hr := Box.mk hr
      rw [hd] at hlk
      replace hd := Box.mk hd
      cases hk : (v.tx == k)
      · have hh : hitB v k i0 = false := by unfold hitB; rw [hk]; rfl
        rw [hh] at hlk
        replace hlk := Box.mk hlk
        replace hh := Box.mk hh
        go_wp2_with fail
        (refine region_since (by kernel_rfl) (by kernel_rfl) ?_)
        repeat (first
          | (refine wpQuiet_goff rfl rfl rfl rfl ?_; simp only [Act.put, List.setIfInBounds_toArray, List.set_cons_succ, List.set_cons_zero])
          | (first
               | refine wpQuiet_free rfl ?_
               | refine wpQuiet_gon rfl rfl rfl rfl ?_
             apply Exists.intro
             refine ⟨fun w' hw' => ?_, ?_⟩
             · (obtain ⟨hc', hr', hs'⟩ := since_facts hw'
                unfold Oper.quietAt
                go_simp
                try go_bits
                first
                  | exact quietUpon_value rfl
                  | (apply quietUpon_enter
                     first
                     | fail))
             simp only [Act.put, List.setIfInBounds_toArray, List.set_cons_succ, List.set_cons_zero]))
        first
          | refine wpQuiet_nil ?_
          | fail "QUIET stopped"
        intro wq hwq'
        go_wp2
        go_roundw
        case rel => exact ⟨since_next hbr hwq', j + 1, by omega, by go_num, hlk.out⟩
        case measure => simp [intOf]; omega
      · cases hi : (v.item == i0)
        · have hh : hitB v k i0 = false := by unfold hitB; rw [hk, hi]; rfl
          rw [hh] at hlk
          replace hlk := Box.mk hlk
          replace hh := Box.mk hh
          go_wp2_with fail
          (refine region_since (by kernel_rfl) (by kernel_rfl) ?_)
          repeat (first
            | (refine wpQuiet_goff rfl rfl rfl rfl ?_; simp only [Act.put, List.setIfInBounds_toArray, List.set_cons_succ, List.set_cons_zero])
            | (first
                 | refine wpQuiet_free rfl ?_
                 | refine wpQuiet_gon rfl rfl rfl rfl ?_
               apply Exists.intro
               refine ⟨fun w' hw' => ?_, ?_⟩
               · (obtain ⟨hc', hr', hs'⟩ := since_facts hw'
                  unfold Oper.quietAt
                  go_simp
                  try go_bits
                  first
                    | exact quietUpon_value rfl
                    | (apply quietUpon_enter
                       first
                       | fail))
               simp only [Act.put, List.setIfInBounds_toArray, List.set_cons_succ, List.set_cons_zero]))
          first
            | refine wpQuiet_nil ?_
            | fail "QUIET stopped"
          intro wq hwq'
          go_wp2
          go_roundw
          case rel => exact ⟨since_next hbr hwq', j + 1, by omega, by go_num, hlk.out⟩
          case measure => simp [intOf]; omega
        · have hh : hitB v k i0 = true := by unfold hitB; rw [hk, hi]; rfl
          rw [hh, if_pos rfl] at hlk
          replace hlk := Box.mk hlk
          replace hh := Box.mk hh
          go_wp2_with fail
          (refine region_since (by kernel_rfl) (by kernel_rfl) ?_)
          repeat (first
            | (refine wpQuiet_goff rfl rfl rfl rfl ?_; simp only [Act.put, List.setIfInBounds_toArray, List.set_cons_succ, List.set_cons_zero])
            | (first
                 | refine wpQuiet_free rfl ?_
                 | refine wpQuiet_gon rfl rfl rfl rfl ?_
               apply Exists.intro
               refine ⟨fun w' hw' => ?_, ?_⟩
               · (obtain ⟨hc', hr', hs'⟩ := since_facts hw'
                  unfold Oper.quietAt
                  go_simp
                  try go_bits
                  first
                    | exact quietUpon_value rfl
                    | (apply quietUpon_enter
                       first
                       | fail))
               simp only [Act.put, List.setIfInBounds_toArray, List.set_cons_succ, List.set_cons_zero]))
          first
            | refine wpQuiet_nil ?_
            | fail "QUIET stopped"
          intro wq hwq'
          have F3' : wq.cell? ⟨b, o + j * 34 + 33, none⟩ = some (.bool v.good) := by rw [Below.cell hwq' (p := ⟨b, o + j * 34 + 33, none⟩) (by simpa using s1)]; exact F3
          have s1' : b < wq.heap.size := by have := Below.size hwq'; omega
          go_wp2
          go_ret
          exact gives_bool hlk.out.symm (hB0.trans ((since_next hbr hwq').mono (by omega)))
    · obtain rfl : j = n := by omega
      have hf : lookL l k i0 = false := by rw [hlk, hl.out, List.drop_length]; rfl
      replace hf := Box.mk hf
      replace hlk := Box.mk hlk
      go_wp2
      go_ret
      exact gives_bool hf.out.symm (hB0.trans (hbr.mono (by omega)))

set_option maxHeartbeats 1000000 in
theorem rall_any (a : Option Addr) (n c : Nat) (l : List Verd) (k : Key) (q : Nat) (W : World) (h : VL W a n c l) (hn : n ≤ 100000) (hq : q ≤ 1000000) : Calls Try.prog 27 #[.slice a n c, .agg (keyC k).toArray, .int .i64 q] W (Gives (.bool (allB l k q)) W) := by
  have H := Box.mk h
  have hn' := Box.mk hn
  clear h hn
  go_enter Try.func27, Try.ntmps27
  go_wp2_with fail
  have hB0 : Below W.heap.size W (W.alloc (.cells (keyC k).toArray 23)) := (Below.refl _ _).alloc (Nat.le_refl _) _
  have hr0 : rowOf (W.alloc (.cells (keyC k).toArray 23)) W.heap.size 0 32 = some (keyC k) := rowOf_alloc_new _ _ _ _ _ _ rfl (keyC_length k)
  obtain ⟨w1, hw1⟩ : ∃ w1, w1 = W.alloc (.cells (keyC k).toArray 23) := ⟨_, rfl⟩
  have hsz1 : w1.heap.size = W.heap.size + 1 := by rw [hw1]; simp
  rw [← hw1] at hB0 hr0 ⊢
  replace hw1 := Box.mk hw1
  replace hB0 := Box.mk hB0
  go_loopw [7] (fun i wr => Below w1.heap.size w1 wr ∧ ∃ j : Nat, j ≤ q ∧ i = .int .i64 j ∧ ∀ t, t < j → lookL l k t = true) (fun i _ => q - (intOf i).toNat)
  case atStart => exact ⟨Below.refl _ _, 0, Nat.zero_le _, rfl, fun t ht => by omega⟩
  case round =>
    obtain ⟨hbr, j, hj, rfl, hall⟩ := hrel
    have hsz := hbr.size
    by_cases hlt : j < q
    · have hlt' : (j : Int) < (q : Int) := by omega
      have R2 : rowOf wr W.heap.size 0 32 = some (keyC k) := by rw [rowOf_congr (hbr.block _ (by omega))]; exact hr0
      have s2 : W.heap.size < wr.heap.size := by omega
      have hV : Box (VL wr a n c l) := Box.mk (SL.below (SL.below H.out hB0.out) hbr)
      replace hall := Box.mk hall
      go_wp2_with fail
      refine (rlook_any a n c l k j _ hV.out hn'.out).mono ?_
      rintro e w2 ⟨rfl, hb2⟩
      cases hlk : lookL l k j
      · have hA := allB_false hlt hlk
        replace hA := Box.mk hA
        replace hlk := Box.mk hlk
        go_wp2
        go_ret
        exact gives_bool hA.out.symm (hB0.out.trans ((since_next hbr hb2).mono (by omega)))
      · replace hlk := Box.mk hlk
        go_wp2
        go_roundw
        case rel =>
          refine ⟨since_next hbr hb2, j + 1, by omega, by go_num, fun t ht => ?_⟩
          rcases Nat.lt_succ_iff_lt_or_eq.1 ht with h | h
          · exact hall.out t h
          · subst h; exact hlk.out
        case measure => simp [intOf]; omega
    · obtain rfl : j = q := by omega
      have hA := allB_true hall
      replace hA := Box.mk hA
      replace hall := Box.mk hall
      go_wp2
      go_ret
      exact gives_bool hA.out.symm (hB0.out.trans (hbr.mono (by omega)))

/-- One row, new. -/
theorem one_ver_new (v : Verd) (t : TypeId) (w : World) : VL (w.alloc (.cells (verC v).toArray t)) (some ⟨w.heap.size, 0, none⟩) 1 1 [v] := by
  have := (Own.new verC_length w w.heap.size [v] t (Nat.le_refl _) (by unfold maxLen; simp)).sl'.2
  rw [rows_one] at this
  exact this
theorem goodL_succ (k : Key) (j : Nat) : goodL k (j + 1) = goodL k j ++ [⟨k, j, true⟩] := by
  unfold goodL
  rw [List.range_succ, List.map_append]; rfl

/-- What Good gives of any number. -/
@[irreducible] def goodI (k : Key) (m : Int) : List Verd := if 1000 < m then [] else goodL k m.toNat

theorem rown_block {w : World} {base : Nat} {u : Option Addr} {n c : Nat} {l : List Verd} (h : ROwn w base (.slice u n c) l) : ∀ x, u = some x → base ≤ x.block := by
  intro x hx
  rcases h.form with ⟨h1, _⟩ | ⟨g, cap, h1, h2, _⟩
  · injection h1 with h1; rw [h1] at hx; cases hx
  · injection h1 with h1; rw [h1] at hx; injection hx with hx; subst hx; exact h2

set_option maxHeartbeats 1000000 in
theorem rgood_any (k : Key) (m : Int) (W : World) : Calls Try.prog 22 #[.agg (keyC k).toArray, .int .i64 m] W (VPost (goodI k m) W) := by
  have hB0 : Below W.heap.size W (W.alloc (.cells (keyC k).toArray 23)) := (Below.refl _ _).alloc (Nat.le_refl _) _
  have hr0 : rowOf (W.alloc (.cells (keyC k).toArray 23)) W.heap.size 0 32 = some (keyC k) := rowOf_alloc_new _ _ _ _ _ _ rfl (keyC_length k)
  have hs0 : (W.alloc (.cells (keyC k).toArray 23)).heap.size = W.heap.size + 1 := by simp
  by_cases hbig : 1000 < m
  · have hg : goodI k m = [] := by unfold goodI; rw [if_pos hbig]
    replace hg := Box.mk hg
    go_enter Try.func22, Try.ntmps22
    go_wp2
    go_ret
    refine ⟨_, _, _, rfl, by rw [hg.out]; exact ⟨rfl, Nat.le_refl _, by unfold maxLen; omega, fun h => (nomatch h), fun h => absurd rfl h⟩, by rw [hg.out]; rfl, hB0.trans ((Below.refl _ _).alloc (by simp) _), fun x hx => ?_⟩
    injection hx with hx
    subst hx
    show W.heap.size ≤ W.heap.size + 1
    omega
  · have hg : goodI k m = goodL k m.toNat := by unfold goodI; rw [if_neg hbig]
    replace hg := Box.mk hg
    obtain ⟨M, hM⟩ : ∃ M, m.toNat = M := ⟨_, rfl⟩
    have hM1 : M ≤ 1000 := by omega
    go_enter Try.func22, Try.ntmps22
    go_wp2_with fail
    obtain ⟨w1, hw1⟩ : ∃ w1, w1 = W.alloc (.cells (keyC k).toArray 23) := ⟨_, rfl⟩
    rw [← hw1] at hB0 hr0 hs0 ⊢
    replace hw1 := Box.mk hw1
    have hO := Own.empty verC 34 50 w1 (W.heap.size + 1) (W.heap.size + 1) hs0.symm (Nat.le_refl _)
    have hB1 : Below (W.heap.size + 1) w1 (w1.alloc (.cells #[] 50)) := (Below.refl _ _).alloc (by omega) _
    generalize w1.alloc (.cells #[] 50) = w2 at *
    replace hM := Box.mk hM
    go_loopw [5, 6] (fun v i wr => Below (W.heap.size + 1) w1 wr ∧ ∃ j : Nat, j ≤ M ∧ i = .int .i64 j ∧ ∃ u c, v = .slice u j c ∧ ROwn wr (W.heap.size + 1) (.slice u j c) (goodL k j)) (fun _ i _ => M - (intOf i).toNat)
    case atStart => exact ⟨hB1, 0, Nat.zero_le _, rfl, _, _, rfl, hO⟩
    case round =>
      obtain ⟨hbr, j, hj, rfl, u, c, rfl, hown⟩ := hrel
      have hsz := hbr.size
      by_cases hlt : j < M
      · have hlt' : (j : Int) < m := by have := hM.out; omega
        have R2 : rowOf wr W.heap.size 0 32 = some (keyC k) := by rw [rowOf_congr (hbr.block _ (by omega))]; exact hr0
        have s2 : W.heap.size < wr.heap.size := by omega
        have hBn : Below wr.heap.size wr (wr.alloc (.cells (verC ⟨k, j, true⟩).toArray 50)) := (Below.refl _ _).alloc (Nat.le_refl _) _
        obtain ⟨u5, n5, c5, w5, hap5, hown5, hb5, hs5, hn5⟩ := app_rv (ty := 48) (hown.below hBn) (by rw [World.size_alloc]; omega) (some ⟨wr.heap.size, 0, none⟩) 1 1 [(⟨k, j, true⟩ : Verd)] (one_ver_new _ _ _) (by rw [goodL_length]; simp; omega)
        have hn5' : n5 = j + 1 := by rw [hn5, goodL_length]; rfl
        subst hn5'
        have hB5 : Below (W.heap.size + 1) w1 w5 := (hbr.alloc (by omega) _).trans hb5
        rw [← goodL_succ] at hown5
        replace hap5 := Box.mk hap5
        replace hown5 := Box.mk hown5
        replace hown := Box.mk hown
        clear hn5 hs5 hb5 hBn
        go_wp2_with fail
        rw [hap5.out]
        replace hap5 := Box.mk hap5
        go_wp2
        go_roundw
        case rel => exact ⟨hB5, j + 1, by omega, by go_num, u5, c5, rfl, hown5.out⟩
        case measure => simp [intOf]; omega
      · obtain rfl : j = M := by omega
        have hge : ¬ (j : Int) < m := by have := hM.out; omega
        replace hown := Box.mk hown
        go_wp2
        go_ret
        refine ⟨_, _, _, rfl, ?_, ?_, hB0.trans (hbr.mono (by omega)), fun x hx => ?_⟩
        · rw [hg.out, hM.out]; exact hown.out.sl'.2
        · rw [hg.out, hM.out, goodL_length]
        · have := rown_block hown.out x hx; omega

theorem good_all (k : Key) (m : Int) (W : World) : Calls Try.prog 19 #[.agg (keyC k).toArray, .int .i64 m] W (VPost (goodI k m) W) := by
  by_cases h : m < 0 ∨ 1000 < m
  · have e : goodI k m = [] := by
      unfold goodI
      rcases h with h | h
      · rw [if_neg (by omega), show m.toNat = 0 from by omega]; rfl
      · rw [if_pos h]
    rw [e]
    exact good_none k m W h
  · obtain ⟨q, rfl⟩ : ∃ q : Nat, m = q := ⟨m.toNat, by omega⟩
    have e : goodI k q = goodL k q := by unfold goodI; rw [if_neg (by omega)]; rfl
    rw [e]
    exact good_any k q W (by omega)

set_option maxHeartbeats 1000000 in
theorem theirs_any (a : Option Addr) (n c : Nat) (l : List Verd) (W : World) (h : VL W a n c l) (hn : n ≤ 1000) : Calls Try.prog 26 #[.slice a n c] W (VPost l W) := by
  have hl := Box.mk h.1
  have H := Box.mk h
  have hcap := h.2.1
  clear h
  go_enter Try.func26, Try.ntmps26
  go_wp2_with fail
  have hO := Own.empty verC 34 50 W W.heap.size W.heap.size rfl (Nat.le_refl _)
  have hB1 : Below W.heap.size W (W.alloc (.cells #[] 50)) := (Below.refl _ _).alloc (Nat.le_refl _) _
  generalize W.alloc (.cells #[] 50) = w2 at *
  go_loopw [3, 4] (fun v i wr => Below W.heap.size W wr ∧ ∃ j : Nat, j ≤ n ∧ i = .int .i64 j ∧ ∃ u c, v = .slice u j c ∧ ROwn wr W.heap.size (.slice u j c) (l.take j)) (fun _ i _ => n - (intOf i).toNat)
  case atStart => exact ⟨hB1, 0, Nat.zero_le _, rfl, _, _, rfl, hO⟩
  case round =>
    obtain ⟨hbr, j, hj, rfl, u, c', rfl, hown⟩ := hrel
    have hsz := hbr.size
    by_cases hlt : j < n
    · have hlt' : (j : Int) < (n : Int) := by omega
      have hjl : j < l.length := by rw [← hl.out]; exact hlt
      have hx : l[j]? = some l[j] := List.getElem?_eq_getElem hjl
      obtain ⟨b, o, rfl, hb, hr⟩ := SL.elem verC_length H.out hx
      have R1 : rowOf wr b (o + j * 34) 34 = some (verC l[j]) := by rw [rowOf_congr (hbr.block b hb)]; exact hr
      have s1 : b < wr.heap.size := by omega
      have hd : l.take (j + 1) = l.take j ++ [l[j]] := by rw [List.take_add_one, hx]; rfl
      have htl : (l.take j).length = j := by rw [List.length_take, ← hl.out]; omega
      generalize l[j] = v at *
      have hBn : Below wr.heap.size wr (wr.alloc (.cells (verC v).toArray 50)) := (Below.refl _ _).alloc (Nat.le_refl _) _
      obtain ⟨u5, n5, c5, w5, hap5, hown5, hb5, hs5, hn5⟩ := app_rv (ty := 48) (hown.below hBn) (by rw [World.size_alloc]; omega) (some ⟨wr.heap.size, 0, none⟩) 1 1 [v] (one_ver_new _ _ _) (by rw [htl]; simp; omega)
      have hn5' : n5 = j + 1 := by rw [hn5, htl]; rfl
      subst hn5'
      have hB5 : Below W.heap.size W w5 := (hbr.alloc (by omega) _).trans hb5
      rw [← hd] at hown5
      replace hap5 := Box.mk hap5
      replace hown5 := Box.mk hown5
      replace hown := Box.mk hown
      replace hx := Box.mk hx
      replace hd := Box.mk hd
      replace htl := Box.mk htl
      replace hr := Box.mk hr
      clear hn5 hs5 hb5 hBn
      go_wp2_with fail
      rw [hap5.out]
      replace hap5 := Box.mk hap5
      go_wp2
      go_roundw
      case rel => exact ⟨hB5, j + 1, by omega, by go_num, u5, c5, rfl, hown5.out⟩
      case measure => simp [intOf]; omega
    · obtain rfl : j = n := by omega
      have ht : l.take j = l := by rw [hl.out, List.take_length]
      rw [ht] at hown
      replace hown := Box.mk hown
      replace ht := Box.mk ht
      go_wp2
      go_ret
      exact ⟨_, _, _, rfl, hown.out.sl'.2, hl.out, hbr, rown_block hown.out⟩

end Go.Proofs.Ytpgaibihfplhcaa
