/- FeeLeast, the walk. -/
import Derived.Test.YtoojmcijldlinaaFee5
namespace Go.Proofs.Ytoojmcijldlinaa
open Go.RowKit
set_option linter.unusedVariables false
set_option linter.unusedSimpArgs false
attribute [local go_sem ↓] load_tx
attribute [local go_sem] rowOf_drew rowOf_alloc_old rowOf_alloc_new

theorem feeLeast_heavy (t : TxV) (w : World) (hv : heavyB t = true) :
    Calls Try.prog 12 #[.agg (txC t).toArray] w (Gives (.bool true) w) := by
  go_enter Try.func12, Try.ntmps12
  go_wp2_with fail
  refine (heavy_any t _).mono ?_
  rintro e w1 ⟨rfl, hb1⟩
  rw [hv]
  go_wp2_with fail
  refine (shown13 _).mono ?_
  rintro e w2 ⟨rfl, hb2⟩
  go_wp2_with fail
  go_ret
  have hs1 := hb1.size
  simp at hs1
  exact gives_bool rfl (Below.of hb2 (by omega) (Below.of hb1 (by simp) ((Below.refl _ _).alloc (by simp) _)))

set_option maxHeartbeats 1000000 in
theorem feeLeast_light (t : TxV) (w : World) (hv : heavyB t = false) :
    Calls Try.prog 12 #[.agg (txC t).toArray] w (Gives (.bool true) w) := by
  have hS := heavy_small hv
  obtain ⟨a0, a1, hc⟩ := act_due hS
  obtain ⟨n, hn⟩ : ∃ n, actN t = n := ⟨_, rfl⟩
  obtain ⟨d, hd⟩ : ∃ d, dueN t = d := ⟨_, rfl⟩
  rw [hn, hd] at hc
  rw [hn] at a0 a1
  have hcv : convN t = d * 5000 := by unfold convN; rw [hd]
  have d0 : 2 ≤ d := by omega
  have d1 : d ≤ 2000000 := by omega
  have u0 : unpaidN t 0 = d := unpaid_eq hd (by omega)
  have u1 : unpaidN t (d * 5000 - 1) = 1 := unpaid_eq hd (by omega)
  have p0 : paysB t 0 = false := pays_false hd (by omega)
  have p1 : paysB t (d * 5000) = true := pays_true hd (by omega)
  have p2 : paysB t (d * 5000 - 1) = false := pays_false hd (by omega)
  clear hd
  go_enter Try.func12, Try.ntmps12
  go_wp2_with fail
  refine (heavy_any t _).mono ?_
  rintro e w1 ⟨rfl, hb1⟩
  rw [hv]
  go_wp2_with fail
  refine (shown13 _).mono ?_
  rintro e w2 ⟨rfl, hb2⟩
  have hs1 := hb1.size
  simp at hs1
  have hr2 : rowOf w2 w.heap.size 0 38 = some (txC t) := by
    rw [(bcell hb2).2.2.1 _ _ _ (by omega), (bcell hb1).2.2.1 _ _ _ (by simp), rowOf_alloc_new _ _ _ _ _ _ rfl (txC_length t)]
  have hs2 : w.heap.size < w2.heap.size := by have := hb2.size; omega
  have hB2 : Below w.heap.size w w2 := Below.of hb2 (by omega) (Below.of hb1 (by simp) ((Below.refl _ _).alloc (by simp) _))
  clear hb1 hb2
  go_wp2_with fail
  refine (act_c t _ hS).mono ?_
  rintro e w3 ⟨rfl, hb3⟩
  have hr3 : rowOf w3 w.heap.size 0 38 = some (txC t) := by rw [(bcell hb3).2.2.1 _ _ _ hs2, hr2]
  have hs3 : w.heap.size < w3.heap.size := by have := hb3.size; omega
  have hB3 : Below w.heap.size w w3 := Below.of hb3 (by omega) hB2
  clear hb3 hr2 hs2 hB2
  rw [hn]
  clear hn
  go_wp2_with fail
  rcases hc with ⟨c1, rfl⟩ | ⟨c1, rfl⟩
  · have m0 : (if n < 2 then 2 else n) = 2 := by split <;> omega
    simp only [Int.reduceMul, Int.reduceSub] at hcv u1 p1 p2
    (refine region_since (by kernel_rfl) (by kernel_rfl) ?_)
    repeat (first
      | (refine wpQuiet_off rfl ?_; simp only [Act.put, List.setIfInBounds_toArray, List.set_cons_succ, List.set_cons_zero])
      | (refine wpQuiet_on rfl ?_
         apply Exists.intro
         refine ⟨fun w' hw' => ?_, ?_⟩
         · (obtain ⟨hc', hr', hs'⟩ := since_facts hw'
            unfold Oper.quietAt
            go_simp
            try go_bits
            first
              | exact quietUpon_value rfl
              | (apply quietUpon_enter
                 first
                 | (go_at_call 19; exact calls_since hw' (conv_c t _ hS))
                 | (go_at_call 27; exact calls_since hw' (unpaid_c t _ _ hS))
                 | (go_at_call 32; exact calls_since hw' (pays_c t _ _ hS))))
         simp only [Act.put, List.setIfInBounds_toArray, List.set_cons_succ, List.set_cons_zero]))
    refine wpQuiet_nil ?_
    intro wq hwq'
    go_wp2
    go_ret
    exact gives_bool rfl (Below.of (since_below hwq') (by omega) hB3)
  · have m0 : (if d < 2 then 2 else d) = d := if_neg (by omega)
    have m1 : (d * 5000 == 5000 * d) = true := by simp; omega
    (refine region_since (by kernel_rfl) (by kernel_rfl) ?_)
    repeat (first
      | (refine wpQuiet_off rfl ?_; simp only [Act.put, List.setIfInBounds_toArray, List.set_cons_succ, List.set_cons_zero])
      | (refine wpQuiet_on rfl ?_
         apply Exists.intro
         refine ⟨fun w' hw' => ?_, ?_⟩
         · (obtain ⟨hc', hr', hs'⟩ := since_facts hw'
            unfold Oper.quietAt
            go_simp
            try go_bits
            first
              | exact quietUpon_value rfl
              | (apply quietUpon_enter
                 first
                 | (go_at_call 19; exact calls_since hw' (conv_c t _ hS))
                 | (go_at_call 27; exact calls_since hw' (unpaid_c t _ _ hS))
                 | (go_at_call 32; exact calls_since hw' (pays_c t _ _ hS))))
         simp only [Act.put, List.setIfInBounds_toArray, List.set_cons_succ, List.set_cons_zero]))
    refine wpQuiet_nil ?_
    intro wq hwq'
    go_wp2
    go_ret
    exact gives_bool rfl (Below.of (since_below hwq') (by omega) hB3)

theorem feeLeast_walk (t : TxV) (w : World) :
    Calls Try.prog 12 #[.agg (txC t).toArray] w (Gives (.bool true) w) := by
  cases hv : heavyB t
  · exact feeLeast_light t w hv
  · exact feeLeast_heavy t w hv

end Go.Proofs.Ytoojmcijldlinaa
