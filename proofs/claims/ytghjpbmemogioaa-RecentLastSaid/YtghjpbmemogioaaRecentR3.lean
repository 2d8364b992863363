/- The reference of layer 18: Put. What is shown. -/
import Derived.Test.YtghjpbmemogioaaRecentR2
namespace Go.Proofs.Ytghjpbmemogioaa
set_option maxRecDepth 100000
open Go.RowKit
set_option linter.unusedVariables false
set_option linter.unusedSimpArgs false
attribute [local irreducible] Int.lt Int.le
attribute [local go_sem ↓] load_key store_key alloc_key build0_key eq_key load_it store_it alloc_it one_it make_it append_it build_it eq_it exec_clear load_rit store_rit alloc_rit one_rit make_rit append_rit build_rit eq_rit
attribute [local go_sem] rowOf_drew rowOf_alloc_old rowOf_alloc_new canPut_drew canPut_alloc_old canPut_alloc_new setCells_alloc_new

set_option maxHeartbeats 2000000 in
theorem rput_any (a : Option Addr) (n c : Nat) (l : List ItemV) (k : Key) (now : Int) (W : World) (h : IL W a n c l) (hn : n ≤ 100000) :
    Calls Try.prog 28 #[.slice a n c, .agg (keyC k).toArray, .int .u64 now] W (LPost (putL l k now) W) := by
  have hl := Box.mk h.1
  have H := Box.mk h
  have hcap := h.2.1
  have hB1 : Below W.heap.size W (W.alloc (.cells (keyC k).toArray 40)) := (Below.refl _ _).alloc (Nat.le_refl _) _
  have hr1 : rowOf (W.alloc (.cells (keyC k).toArray 40)) W.heap.size 0 32 = some (keyC k) := rowOf_alloc_new _ _ _ _ _ _ rfl (keyC_length k)
  have hPA : putA l k now = l.filter (fun x => !(x.id == k)) ++ [⟨k, now⟩] := by unfold putA; rfl
  have hPL : putL l k now = (putA l k now).drop ((putA l k now).length - 5) := by unfold putL; rfl
  have hPn : (putA l k now).length = (l.filter (fun x => !(x.id == k))).length + 1 := by rw [hPA]; simp
  have hfl0 := List.length_filter_le (fun x : ItemV => !(x.id == k)) l
  replace hPA := Box.mk hPA
  replace hPL := Box.mk hPL
  replace hPn := Box.mk hPn
  replace hfl0 := Box.mk hfl0
  clear h
  go_enter Try.func28, Try.ntmps28
  go_wp2_with fail
  obtain ⟨w1, hw1⟩ : ∃ w1, w1 = W.alloc (.cells (keyC k).toArray 40) := ⟨_, rfl⟩
  have hs1 : w1.heap.size = W.heap.size + 1 := by rw [hw1]; simp
  rw [← hw1] at hB1 hr1 ⊢
  replace hw1 := Box.mk hw1
  have hO := Own.empty itC 33 62 w1 (W.heap.size + 1) (W.heap.size + 1) hs1.symm (Nat.le_refl _)
  have hB2 : Below (W.heap.size + 1) w1 (w1.alloc (.cells #[] 62)) := (Below.refl _ _).alloc (by omega) _
  generalize w1.alloc (.cells #[] 62) = w2 at *
  go_loopw [7, 8] (fun v i wr => Below (W.heap.size + 1) w1 wr ∧ ∃ j : Nat, j ≤ n ∧ i = .int .i64 j ∧ ∃ u m c', v = .slice u m c' ∧ RIOwn wr (W.heap.size + 1) (.slice u m c') ((l.take j).filter (fun x => !(x.id == k)))) (fun _ i _ => n - (intOf i).toNat)
  case atStart => exact ⟨hB2, 0, Nat.zero_le _, rfl, _, _, _, rfl, hO⟩
  case round =>
    obtain ⟨hbr, j, hj, rfl, u, m, c', rfl, hown⟩ := hrel
    have hsz := hbr.size
    have R2 : rowOf wr W.heap.size 0 32 = some (keyC k) := by rw [rowOf_congr (hbr.block _ (by omega))]; exact hr1
    have s2 : W.heap.size < wr.heap.size := by omega
    by_cases hlt : j < n
    · have hlt' : (j : Int) < (n : Int) := by omega
      have hjl : j < l.length := by rw [← hl.out]; exact hlt
      have hx : l[j]? = some l[j] := List.getElem?_eq_getElem hjl
      obtain ⟨b, o, rfl, hb, hr⟩ := SL.elem itC_length H.out hx
      have R1 : rowOf wr b (o + j * 33) 33 = some (itC l[j]) := by rw [rowOf_congr (hbr.block b (by omega)), rowOf_congr (hB1.block b hb)]; exact hr
      have s1 : b < wr.heap.size := by omega
      have hft := filter_take_succ (p := fun x : ItemV => !(x.id == k)) hx
      have hfl := filter_take_le (fun x : ItemV => !(x.id == k)) l j
      generalize l[j] = v at *
      obtain ⟨F1, F2⟩ := it_at R1
      replace hx := Box.mk hx
      replace hr := Box.mk hr
      replace hfl := Box.mk hfl
      replace hown := Box.mk hown
      replace F2 := Box.mk F2
      cases hy : (v.id == k)
      · have hd : (l.take (j + 1)).filter (fun x => !(x.id == k)) = (l.take j).filter (fun x => !(x.id == k)) ++ [v] := by rw [hft, hy]; rfl
        replace hft := Box.mk hft
        replace hd := Box.mk hd
        go_wp2_with fail
        (refine region_since (by kernel_rfl) (by kernel_rfl) ?_)
        repeat (first
          | (refine wpQuiet_goff rfl rfl rfl rfl ?_; simp only [Act.put, List.setIfInBounds_toArray, List.set_cons_succ, List.set_cons_zero])
          | (first
               | refine wpQuiet_free rfl ?_
               | refine wpQuiet_gon rfl rfl rfl rfl ?_
             apply Exists.intro
             refine ⟨fun w' hw' => ?_, ?_⟩
             · (obtain ⟨hc', hr', hs'⟩ := since_facts hw'
                unfold Oper.quietAt
                go_simp
                try go_bits
                first
                  | exact quietUpon_value rfl
                  | exact rfl
                  | (apply quietUpon_enter
                     first
                     | fail))
             simp only [Act.put, List.setIfInBounds_toArray, List.set_cons_succ, List.set_cons_zero]))
        first
          | refine wpQuiet_nil ?_
          | fail "QUIET stopped"
        intro wq hwq'
        have hb03 := hbr.trans (Below.mono hwq' (by omega))
        have R3 : rowOf wq b (o + j * 33) 33 = some (itC v) := by rw [rowOf_congr (Below.block hwq' b s1)]; exact R1
        have s3 : b < wq.heap.size := by have := Below.size hwq'; omega
        have hs3 := hb03.size
        have hown3 := hown.out.below hwq'
        obtain ⟨u5, n5, c5, w5, hap5, hown5, hb5, hs5, hn5, _⟩ := app_rit (ty := 43) (hown3.below ((Below.refl wq.heap.size wq).alloc (Nat.le_refl _) (.cells (itC v).toArray 62))) (by rw [World.size_alloc]; omega) (some ⟨wq.heap.size, 0, none⟩) 1 1 [v] (SL.one itC_length _ _ _) (by have := hfl.out; have := hl.out; simp; omega)
        have hB5 : Below (W.heap.size + 1) w1 w5 := (hb03.alloc (by omega) _).trans hb5
        rw [← hd.out] at hown5
        replace hap5 := Box.mk hap5
        replace hown5 := Box.mk hown5
        replace hown3 := Box.mk hown3
        clear hn5 hs5 hb5 R1 R2 F1
        go_wp2_with fail
        rw [hap5.out]
        replace hap5 := Box.mk hap5
        go_wp2
        go_roundw
        case rel => exact ⟨hB5, j + 1, by omega, by go_num, u5, n5, c5, rfl, hown5.out⟩
        case measure => simp [intOf]; omega
      · have hd : (l.take (j + 1)).filter (fun x => !(x.id == k)) = (l.take j).filter (fun x => !(x.id == k)) := by rw [hft, hy]; simp
        replace hft := Box.mk hft
        replace hd := Box.mk hd
        go_wp2_with fail
        (refine region_since (by kernel_rfl) (by kernel_rfl) ?_)
        repeat (first
          | (refine wpQuiet_goff rfl rfl rfl rfl ?_; simp only [Act.put, List.setIfInBounds_toArray, List.set_cons_succ, List.set_cons_zero])
          | (first
               | refine wpQuiet_free rfl ?_
               | refine wpQuiet_gon rfl rfl rfl rfl ?_
             apply Exists.intro
             refine ⟨fun w' hw' => ?_, ?_⟩
             · (obtain ⟨hc', hr', hs'⟩ := since_facts hw'
                unfold Oper.quietAt
                go_simp
                try go_bits
                first
                  | exact quietUpon_value rfl
                  | exact rfl
                  | (apply quietUpon_enter
                     first
                     | fail))
             simp only [Act.put, List.setIfInBounds_toArray, List.set_cons_succ, List.set_cons_zero]))
        first
          | refine wpQuiet_nil ?_
          | fail "QUIET stopped"
        intro wq hwq'
        go_wp2
        go_roundw
        case rel => exact ⟨hbr.trans (Below.mono hwq' (by omega)), j + 1, by omega, by go_num, u, m, c', rfl, by rw [hd.out]; exact hown.out.below hwq'⟩
        case measure => simp [intOf]; omega
    · obtain rfl : j = n := by omega
      have ht : l.take j = l := by rw [hl.out, List.take_length]
      rw [ht] at hown
      obtain ⟨f, hf⟩ : ∃ f, (l.filter (fun x => !(x.id == k))).length = f := ⟨_, rfl⟩
      have hf1 : f ≤ 100000 := by have := hfl0.out; have := hl.out; omega
      have hap := app_rit (ty := 43) (hown.below ((Below.refl wr.heap.size wr).alloc (Nat.le_refl _) (.cells (itC ⟨k, now⟩).toArray 62))) (by rw [World.size_alloc]; omega) (some ⟨wr.heap.size, 0, none⟩) 1 1 [(⟨k, now⟩ : ItemV)] (SL.one itC_length _ _ _) (by rw [hf]; simp; omega)
      rw [hf, ← hPA.out] at hap
      obtain ⟨u5, n5, c5, w5, hap5, hown5, hb5, hs5, hn5, _⟩ := hap
      replace hn5 : n5 = f + 1 := hn5
      subst hn5
      have hc5 := hown5.sl'.2.2.1
      have hcm := hown5.sl'.2.2.2.1
      have hB5 : Below W.heap.size W w5 := hB1.trans (((hbr.alloc (by omega) _).trans hb5).mono (by omega))
      have hlenA : (putA l k now).length = f + 1 := by rw [hPn.out, hf]
      replace hlenA := Box.mk hlenA
      replace hf := Box.mk hf
      replace hap5 := Box.mk hap5
      replace hown5 := Box.mk hown5
      replace hown := Box.mk hown
      replace ht := Box.mk ht
      clear hb5 hs5
      go_wp2_with fail
      rw [hap5.out]
      replace hap5 := Box.mk hap5
      by_cases h5 : 5 < f + 1
      · obtain ⟨t, ht⟩ : ∃ t : Nat, f + 1 = t + 5 := ⟨f + 1 - 5, by omega⟩
        have ht1 : (f : Int) + 1 - 5 = t := by omega
        have hlt1 : (t : Int) ≤ (f : Int) + 1 := by omega
        have hlt2 : t ≤ f + 1 := by omega
        have hsub : f + 1 - t = 5 := by omega
        have hne : ¬ (c5 = t) := by omega
        have h5' : (5 : Int) < (f : Int) + 1 := by omega
        replace ht := Box.mk ht
        go_wp2
        go_ret
        refine ⟨_, _, _, rfl, ?_, ?_, hB5⟩
        · rw [hPL.out, hlenA.out, ht.out, Nat.add_sub_cancel]
          have := hown5.out.sl'.2.cut itC_length t (by omega) (c5 - t) (by omega) (by omega)
          rw [hsub] at this
          exact this
        · intro x hx
          obtain ⟨y, hy, rfl⟩ := Option.map_eq_some_iff.1 hx
          have := hown5.out.block_le y hy
          unfold Addr.add
          split <;> (show W.heap.size ≤ y.block; omega)
      · have h5' : ¬ (5 : Int) < (f : Int) + 1 := by omega
        go_wp2
        go_ret
        refine ⟨_, _, _, rfl, ?_, fun x hx => by have := hown5.out.block_le x hx; omega, hB5⟩
        rw [hPL.out, hlenA.out, show f + 1 - 5 = 0 from by omega, List.drop_zero]
        exact hown5.out.sl'.2

end Go.Proofs.Ytghjpbmemogioaa
