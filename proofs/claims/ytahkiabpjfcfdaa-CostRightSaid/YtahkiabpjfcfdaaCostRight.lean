/- Layer 14: of weights that may not be nothing is picked, and nothing summed; of one, it is. -/
import Derived.Test.YtahkiabpjfcfdaaCost2
namespace Go.Proofs.Ytahkiabpjfcfdaa
open Go.RowKit
set_option linter.unusedVariables false
set_option linter.unusedSimpArgs false
set_option maxRecDepth 100000

theorem okW_rep {n : Nat} {w : Int} (h : 1 ≤ w ∧ w ≤ 1099511627776) : okW (List.replicate n w) := fun x hx => by rw [List.eq_of_mem_replicate hx]; exact h
theorem sum_rep (w : Int) : ∀ n : Nat, (List.replicate n w).sum = w * n
  | 0 => by simp
  | n + 1 => by rw [List.replicate_succ, List.sum_cons, sum_rep w n, Int.natCast_succ, Int.mul_add]; omega
theorem pickI_rep {w : Int} (hw : 1 ≤ w) : ∀ (n : Nat) (d : Int), 0 ≤ d → d < w * n → ((pickI (List.replicate n w) d : Nat) : Int) = d / w
  | 0, d, h0, h => by simp at h; omega
  | n + 1, d, h0, h => by
    rw [List.replicate_succ, pickI]
    by_cases hd : d < w
    · rw [if_pos hd, Int.ediv_eq_zero_of_lt h0 hd]; rfl
    · rw [if_neg hd]
      have hm : w * ((n + 1 : Nat) : Int) = w * n + w := by rw [Int.natCast_succ, Int.mul_add, Int.mul_one]
      have ih := pickI_rep hw n (d - w) (by omega) (by omega)
      have e : d / w = (d - w) / w + 1 := by
        have := Int.add_mul_ediv_right (d - w) 1 (c := w) (by omega)
        rw [Int.one_mul, Int.sub_add_cancel] at this
        exact this
      rw [e, ← ih, Int.natCast_add]; omega

attribute [local irreducible] Int.lt Int.le
attribute [local go_sem ↓] append_i64
set_option maxHeartbeats 4000000 in
theorem costRight_walk (w : Int) (hw : I64 w) (m : Nat) (hm : m < 65536) (draw : Nat) (hdr : draw < 18446744073709551616) (W : World) : Calls Try.prog 4 #[.int .i64 w, .int .u16 m, .int .u64 draw] W (LawEnd W) := by
  obtain ⟨n, hn⟩ : ∃ k, m % 1100 = k := ⟨_, rfl⟩
  have hn1 : (m : Int) % 1100 = n := by omega
  have hn6 : (n : Int) < 1100 := by omega
  replace hn := Box.mk hn
  replace hw := Box.mk hw
  go_enter Try.func4, Try.ntmps4
  go_wp2_with fail
  have hO : OwnI (W.alloc (.cells #[] 2)) W.heap.size (.slice (some ⟨W.heap.size, 0, none⟩) 0 0) (List.replicate 0 w) := OwnI.empty W W.heap.size W.heap.size rfl (Nat.le_refl _)
  have hB : Below W.heap.size W (W.alloc (.cells #[] 2)) := (Below.refl _ _).alloc (Nat.le_refl _) _
  rw [hn1]
  go_loopw [8, 9] (fun v i wr => Below W.heap.size W wr ∧ ∃ j : Nat, j ≤ n ∧ i = .int .i64 j ∧ ∃ g c', v = .slice (some ⟨g, 0, none⟩) j c' ∧ OwnI wr W.heap.size (.slice (some ⟨g, 0, none⟩) j c') (List.replicate j w)) (fun _ i _ => n - (intOf i).toNat)
  case atStart => exact ⟨hB, 0, Nat.zero_le _, rfl, _, _, rfl, hO⟩
  case round =>
    obtain ⟨hbr, j, hj, rfl, g, c', rfl, hown⟩ := hrel
    have hsz := hbr.size
    by_cases hlt : j < n
    · have hlt' : (j : Int) < (n : Int) := by omega
      go_wp2_with fail
      obtain ⟨g', c'', w', hap, hown', hb', hs'⟩ := app_i64 (ty := 25) hown hsz w (by rw [List.length_replicate]; omega)
      rw [List.length_replicate] at hap hown'
      rw [← List.replicate_succ'] at hown'
      rw [hap]
      go_wp2
      go_roundw
      case rel => exact ⟨hbr.trans hb', j + 1, by omega, by go_num, g', c'', rfl, hown'⟩
      case measure => simp [intOf]; omega
    · obtain rfl : j = n := by omega
      have hge : ¬ (j : Int) < (j : Int) := by omega
      have hIL : IL wr (some ⟨g, 0, none⟩) j c' (List.replicate j w) := hown.il fun x hx => by rw [List.eq_of_mem_replicate hx]; exact hw.out
      have cs := fun w1 h => costSum_any (some ⟨g, 0, none⟩) j c' (List.replicate j w) w1 h
      have cp := fun w1 h => costPick_any (some ⟨g, 0, none⟩) j c' (List.replicate j w) draw hdr w1 h
      have key : (j = 0) ∨ (0 < j ∧ (j : Int) ≤ 1000 ∧ 1 ≤ w ∧ w ≤ 1099511627776) ∨ (0 < j ∧ (j : Int) ≤ 1000 ∧ ¬ 1 ≤ w) ∨ (0 < j ∧ (j : Int) ≤ 1000 ∧ 1 ≤ w ∧ ¬ w ≤ 1099511627776) ∨ (0 < j ∧ ¬ (j : Int) ≤ 1000) := by omega
      replace hown := Box.mk hown
      clear hO hB
      rcases key with rfl | ⟨k0, k1, k2, k3⟩ | hbad
      · rw [List.replicate_zero] at hIL cs cp
        rw [show sumV [] = (0, true) from sumV_ok (fun x hx => by simp at hx) (by simp)] at cs
        rw [pickV_nil] at cp
        unfold val2 at cs cp
        replace hIL := Box.mk hIL
        replace cs := Box.mk cs
        replace cp := Box.mk cp
        go_wp2_with fail
        refine (cs.out _ hIL.out).mono ?_
        rintro e w1 ⟨rfl, hb1⟩
        go_wp2_with fail
        refine (cp.out _ (hIL.out.below hb1)).mono ?_
        rintro e w2 ⟨rfl, hb2⟩
        go_wp2_with fail
        refine (shown14 _).mono ?_
        rintro e w3 ⟨rfl, hb3⟩
        go_wp2
        go_ret
        exact gives_bool rfl (Below.of hb3 (by have := hb1.size; have := hb2.size; omega) (Below.of hb2 (by have := hb1.size; omega) (Below.of hb1 hsz hbr)))
      · have hok := okW_rep (n := j) ⟨k2, k3⟩
        have hS := okW_sum hok
        rw [sum_rep, List.length_replicate] at hS
        obtain ⟨S, hSd⟩ : ∃ S, w * (j : Int) = S := ⟨_, rfl⟩
        rw [hSd] at hS
        have hS1 : 1 ≤ S := by omega
        have hS2 : S ≤ 1100000000000000000 := by omega
        obtain ⟨D, hD⟩ : ∃ D : Nat, (draw : Int) % S = D := ⟨((draw : Int) % S).toNat, by have := Int.emod_nonneg (draw : Int) (show S ≠ 0 by omega); omega⟩
        have hDS : (D : Int) < S := by rw [← hD]; exact Int.emod_lt_of_pos _ (by omega)
        obtain ⟨Q, hQ⟩ : ∃ Q : Nat, pickI (List.replicate j w) D = Q := ⟨_, rfl⟩
        have hQ1 : (D : Int) / w = (Q : Int) := by rw [← hQ]; exact (pickI_rep k2 j D (by omega) (by rw [hSd]; exact hDS)).symm
        have hQ2 : (Q : Int) ≤ D := by rw [← hQ1]; exact Int.ediv_le_self _ (by omega)
        rw [show sumV (List.replicate j w) = (S, true) from by rw [sumV_ok hok (by rw [List.length_replicate]; omega), sum_rep, hSd]] at cs
        rw [show pickV (List.replicate j w) draw = ((Q : Int), true) from by rw [pickV_ok hok (by rw [List.length_replicate]; omega) (by simp; omega), sum_rep, hSd, hD, hQ]] at cp
        unfold val2 at cs cp
        have u1 : S % 18446744073709551616 = S := by omega
        have u2 : w % 18446744073709551616 = w := by omega
        have u3 : wrap64 S = S := IntWalk.wrap64_in _ ⟨by omega, by omega⟩
        have u4 : (D : Int) ≤ 9223372036854775807 := by omega
        have u5 : ¬ S = 0 := by omega
        have u6 : ¬ w = 0 := by omega
        have u7 : 0 < (j : Int) := by omega
        have u8 : ¬ (j : Int) = 0 := by omega
        replace hIL := Box.mk hIL
        replace cs := Box.mk cs
        replace cp := Box.mk cp
        replace hok := Box.mk hok
        replace hQ := Box.mk hQ
        replace hS := Box.mk hS
        go_wp2_with fail
        refine (cs.out _ hIL.out).mono ?_
        rintro e w1 ⟨rfl, hb1⟩
        go_wp2_with fail
        refine (cp.out _ (hIL.out.below hb1)).mono ?_
        rintro e w2 ⟨rfl, hb2⟩
        go_wp2_with fail
        refine (shown14 _).mono ?_
        rintro e w3 ⟨rfl, hb3⟩
        go_wp2
        go_ret
        exact gives_bool rfl (Below.of hb3 (by have := hb1.size; have := hb2.size; omega) (Below.of hb2 (by have := hb1.size; omega) (Below.of hb1 hsz hbr)))
      · have hb0 : 0 < j := by omega
        have hnok : ¬ (okW (List.replicate j w) ∧ (List.replicate j w).length ≤ 1000) := fun h => by
          have h1 := h.1 w (by rw [List.mem_replicate]; exact ⟨by omega, rfl⟩)
          have h2 := h.2
          rw [List.length_replicate] at h2
          omega
        rw [sumV_bad hnok] at cs
        rw [pickV_bad hnok] at cp
        unfold val2 at cs cp
        have u7 : 0 < (j : Int) := by omega
        have u8 : ¬ (j : Int) = 0 := by omega
        replace hIL := Box.mk hIL
        replace cs := Box.mk cs
        replace cp := Box.mk cp
        replace hnok := Box.mk hnok
        rcases hbad with ⟨_, k1, k2⟩ | ⟨_, k1, k2, k3⟩ | ⟨_, k1⟩
        all_goals
          go_wp2_with fail
          refine (cs.out _ hIL.out).mono ?_
          rintro e w1 ⟨rfl, hb1⟩
          go_wp2_with fail
          refine (cp.out _ (hIL.out.below hb1)).mono ?_
          rintro e w2 ⟨rfl, hb2⟩
          go_wp2_with fail
          refine (shown14 _).mono ?_
          rintro e w3 ⟨rfl, hb3⟩
          go_wp2
          go_ret
          exact gives_bool rfl (Below.of hb3 (by have := hb1.size; have := hb2.size; omega) (Below.of hb2 (by have := hb1.size; omega) (Below.of hb1 hsz hbr)))

end Go.Proofs.Ytahkiabpjfcfdaa
