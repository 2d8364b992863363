/- The laws of layer 13: FeeShares, FeeUnpaid, FeeTells, FeeRises: the walks. -/
import Derived.Test.YtoojmcijldlinaaFee5
namespace Go.Proofs.Ytoojmcijldlinaa
open Go.RowKit
set_option linter.unusedVariables false
set_option linter.unusedSimpArgs false
attribute [local go_sem ↓] load_tx
attribute [local go_sem] rowOf_drew rowOf_alloc_old rowOf_alloc_new

/-- The transaction still lies in the first block of the call's own. -/
structure St (w : World) (t : TxV) (wn : World) : Prop where
  row : rowOf wn w.heap.size 0 38 = some (txC t)
  size : w.heap.size < wn.heap.size
  below : Below w.heap.size w wn
theorem St.start (w : World) (t : TxV) : St w t (w.alloc (.cells (txC t).toArray 35)) :=
  ⟨rowOf_alloc_new _ _ _ _ _ _ rfl (txC_length t), by simp, (Below.refl _ _).alloc (by simp) _⟩
theorem St.step {w : World} {t : TxV} {a b : World} (h : St w t a) (hb : Below a.heap.size a b) : St w t b :=
  ⟨by rw [(bcell hb).2.2.1 _ _ _ h.size, h.row], Nat.lt_of_lt_of_le h.size hb.size, Below.of hb (Nat.le_of_lt h.size) h.below⟩

theorem half_is (d : Int) (h : 0 < d) : d * 2500 * 65536 / (d * 5000) = 32768 := by
  rw [show d * 2500 * 65536 = 32768 * (d * 5000) from by omega, Int.mul_ediv_cancel _ (by omega)]
theorem once_is (d k : Int) (h : 0 < d) : k * (d * 5000) * 65536 / (d * 5000) = k * 65536 := by
  rw [show k * (d * 5000) * 65536 = (k * 65536) * (d * 5000) from by rw [Int.mul_assoc, Int.mul_comm (d * 5000) 65536, ← Int.mul_assoc], Int.mul_ediv_cancel _ (by omega)]

theorem feeShares_heavy (t : TxV) (more : Int) (w : World) (hv : heavyB t = true) :
    Calls Try.prog 5 #[.agg (txC t).toArray, .int .u32 more] w (Gives (.bool true) w) := by
  have hSt := St.start w t
  go_enter Try.func5, Try.ntmps5
  go_wp2_with fail
  refine (heavy_any t _).mono ?_
  rintro e w1 ⟨rfl, hb1⟩
  rw [hv]
  go_wp2_with fail
  refine (shown13 _).mono ?_
  rintro e w2 ⟨rfl, hb2⟩
  go_wp2_with fail
  go_ret
  exact gives_bool rfl ((hSt.step hb1).step hb2).below

set_option maxHeartbeats 2000000 in
theorem feeShares_light (t : TxV) (more : Int) (w : World) (m0 : 0 ≤ more) (m1 : more ≤ 4294967295) (hv : heavyB t = false) :
    Calls Try.prog 5 #[.agg (txC t).toArray, .int .u32 more] w (Gives (.bool true) w) := by
  have hS := heavy_small hv
  obtain ⟨a0, a1, hc⟩ := act_due hS
  obtain ⟨n, hn⟩ : ∃ n, actN t = n := ⟨_, rfl⟩
  obtain ⟨d, hd⟩ : ∃ d, dueN t = d := ⟨_, rfl⟩
  rw [hn, hd] at hc
  rw [hn] at a0 a1
  have hcv : convN t = d * 5000 := by unfold convN; rw [hd]
  have d0 : 2 ≤ d := by omega
  have d1 : d ≤ 2000000 := by omega
  have x1 : weightN t (d * 5000) = 65536 := weight_eq hd (by rw [show max (min (d * 5000) (4 * (d * 5000))) 0 = 1 * (d * 5000) from by omega, once_is _ _ (by omega)]; rfl)
  have x2 : weightN t (d * 5000 / 2) = 32768 := weight_eq hd (by rw [show max (min (d * 5000 / 2) (4 * (d * 5000))) 0 = d * 2500 from by omega, half_is _ (by omega)]; rfl)
  have x3 : weightN t (2 * (d * 5000)) = 131072 := weight_eq hd (by rw [show max (min (2 * (d * 5000)) (4 * (d * 5000))) 0 = 2 * (d * 5000) from by omega, once_is _ _ (by omega)]; rfl)
  have x4 : weightN t (4 * (d * 5000) + more) = 262144 := weight_eq hd (by rw [show max (min (4 * (d * 5000) + more) (4 * (d * 5000))) 0 = 4 * (d * 5000) from by omega, once_is _ _ (by omega)]; rfl)
  have x5 : weightN t 0 = 1 := weight_eq hd (by rw [show max (min 0 (4 * (d * 5000))) 0 = 0 from by omega, Int.zero_mul, Int.zero_ediv]; rfl)
  clear hc hn a0 a1
  clear hd
  have hSt := St.start w t
  go_enter Try.func5, Try.ntmps5
  go_wp2_with fail
  refine (heavy_any t _).mono ?_
  rintro e w1 ⟨rfl, hb1⟩
  rw [hv]
  replace hSt := hSt.step hb1
  clear hb1
  go_wp2_with fail
  refine (shown13 _).mono ?_
  rintro e w2 ⟨rfl, hb2⟩
  replace hSt := hSt.step hb2
  clear hb2
  have hr := hSt.row
  have hsz := hSt.size
  go_wp2_with (first | (go_at_call 19; refine (conv_c t _ hS).mono ?_; rintro e wn ⟨rfl, hb⟩; replace hSt := hSt.step hb; have hr := hSt.row; have hsz := hSt.size; clear hb) | (go_at_call 20; refine (weight_any t _ _ hS).mono ?_; rintro e wn ⟨rfl, hb⟩; replace hSt := hSt.step hb; have hr := hSt.row; have hsz := hSt.size; clear hb))
  go_ret
  exact gives_bool rfl hSt.below

theorem feeShares_walk (t : TxV) (more : Int) (w : World) (m0 : 0 ≤ more) (m1 : more ≤ 4294967295) :
    Calls Try.prog 5 #[.agg (txC t).toArray, .int .u32 more] w (Gives (.bool true) w) := by
  cases hv : heavyB t
  · exact feeShares_light t more w m0 m1 hv
  · exact feeShares_heavy t more w hv

theorem feeUnpaid_heavy (t : TxV) (f : Int) (w : World) (hv : heavyB t = true) :
    Calls Try.prog 9 #[.agg (txC t).toArray, .int .u32 f] w (Gives (.bool true) w) := by
  have hSt := St.start w t
  go_enter Try.func9, Try.ntmps9
  go_wp2_with fail
  refine (heavy_any t _).mono ?_
  rintro e w1 ⟨rfl, hb1⟩
  rw [hv]
  go_wp2_with fail
  refine (shown13 _).mono ?_
  rintro e w2 ⟨rfl, hb2⟩
  go_wp2_with fail
  go_ret
  exact gives_bool rfl ((hSt.step hb1).step hb2).below

set_option maxHeartbeats 2000000 in
theorem feeUnpaid_light (t : TxV) (f : Int) (w : World) (m0 : 0 ≤ f) (m1 : f ≤ 4294967295) (hv : heavyB t = false) :
    Calls Try.prog 9 #[.agg (txC t).toArray, .int .u32 f] w (Gives (.bool true) w) := by
  have hS := heavy_small hv
  obtain ⟨a0, a1, hc⟩ := act_due hS
  obtain ⟨n, hn⟩ : ∃ n, actN t = n := ⟨_, rfl⟩
  obtain ⟨d, hd⟩ : ∃ d, dueN t = d := ⟨_, rfl⟩
  rw [hn, hd] at hc
  rw [hn] at a0 a1
  have hcv : convN t = d * 5000 := by unfold convN; rw [hd]
  have d0 : 2 ≤ d := by omega
  have d1 : d ≤ 2000000 := by omega
  obtain ⟨u, hu⟩ : ∃ u, unpaidN t f = u := ⟨_, rfl⟩
  have hu' : u = max (d - f / 5000) 0 := by rw [← hu]; unfold unpaidN heldN; rw [hd]; omega
  have Hu' := Lib.hid hu'
  clear hu'
  have u1 : unpaidN t (-1) = d := unpaid_eq hd (by omega)
  have u2 : unpaidN t 2100000000000001 = 0 := unpaid_eq hd (by omega)
  clear hd
  have hSt := St.start w t
  go_enter Try.func9, Try.ntmps9
  go_wp2_with fail
  refine (heavy_any t _).mono ?_
  rintro e w1 ⟨rfl, hb1⟩
  rw [hv]
  replace hSt := hSt.step hb1
  clear hb1
  go_wp2_with fail
  refine (shown13 _).mono ?_
  rintro e w2 ⟨rfl, hb2⟩
  replace hSt := hSt.step hb2
  clear hb2
  have hr := hSt.row
  have hsz := hSt.size
  rcases hc with ⟨c1, rfl⟩ | ⟨c1, rfl⟩
  · have m2 : (if n < 2 then 2 else n) = 2 := by split <;> omega
    by_cases hz : f / 5000 ≤ 2
    · have e1 : (u == 2 - f / 5000) = true := by rw [Hu'.out]; simp; omega
      go_wp2_with (first | (go_at_call 19; refine (conv_c t _ hS).mono ?_; rintro e wn ⟨rfl, hb⟩; replace hSt := hSt.step hb; have hr := hSt.row; have hsz := hSt.size; clear hb) | (go_at_call 18; refine (act_c t _ hS).mono ?_; rintro e wn ⟨rfl, hb⟩; replace hSt := hSt.step hb; have hr := hSt.row; have hsz := hSt.size; clear hb) | (go_at_call 27; refine (unpaid_c t _ _ hS).mono ?_; rintro e wn ⟨rfl, hb⟩; replace hSt := hSt.step hb; have hr := hSt.row; have hsz := hSt.size; clear hb))
      go_ret
      exact gives_bool rfl hSt.below
    · have e1 : (u == 0) = true := by rw [Hu'.out]; simp; omega
      go_wp2_with (first | (go_at_call 19; refine (conv_c t _ hS).mono ?_; rintro e wn ⟨rfl, hb⟩; replace hSt := hSt.step hb; have hr := hSt.row; have hsz := hSt.size; clear hb) | (go_at_call 18; refine (act_c t _ hS).mono ?_; rintro e wn ⟨rfl, hb⟩; replace hSt := hSt.step hb; have hr := hSt.row; have hsz := hSt.size; clear hb) | (go_at_call 27; refine (unpaid_c t _ _ hS).mono ?_; rintro e wn ⟨rfl, hb⟩; replace hSt := hSt.step hb; have hr := hSt.row; have hsz := hSt.size; clear hb))
      go_ret
      exact gives_bool rfl hSt.below
  · have m2 : (if d < 2 then 2 else d) = d := if_neg (by omega)
    by_cases hz : f / 5000 ≤ d
    · have e1 : (u == d - f / 5000) = true := by rw [Hu'.out]; simp; omega
      go_wp2_with (first | (go_at_call 19; refine (conv_c t _ hS).mono ?_; rintro e wn ⟨rfl, hb⟩; replace hSt := hSt.step hb; have hr := hSt.row; have hsz := hSt.size; clear hb) | (go_at_call 18; refine (act_c t _ hS).mono ?_; rintro e wn ⟨rfl, hb⟩; replace hSt := hSt.step hb; have hr := hSt.row; have hsz := hSt.size; clear hb) | (go_at_call 27; refine (unpaid_c t _ _ hS).mono ?_; rintro e wn ⟨rfl, hb⟩; replace hSt := hSt.step hb; have hr := hSt.row; have hsz := hSt.size; clear hb))
      go_ret
      exact gives_bool rfl hSt.below
    · have e1 : (u == 0) = true := by rw [Hu'.out]; simp; omega
      go_wp2_with (first | (go_at_call 19; refine (conv_c t _ hS).mono ?_; rintro e wn ⟨rfl, hb⟩; replace hSt := hSt.step hb; have hr := hSt.row; have hsz := hSt.size; clear hb) | (go_at_call 18; refine (act_c t _ hS).mono ?_; rintro e wn ⟨rfl, hb⟩; replace hSt := hSt.step hb; have hr := hSt.row; have hsz := hSt.size; clear hb) | (go_at_call 27; refine (unpaid_c t _ _ hS).mono ?_; rintro e wn ⟨rfl, hb⟩; replace hSt := hSt.step hb; have hr := hSt.row; have hsz := hSt.size; clear hb))
      go_ret
      exact gives_bool rfl hSt.below

theorem feeUnpaid_walk (t : TxV) (f : Int) (w : World) (m0 : 0 ≤ f) (m1 : f ≤ 4294967295) :
    Calls Try.prog 9 #[.agg (txC t).toArray, .int .u32 f] w (Gives (.bool true) w) := by
  cases hv : heavyB t
  · exact feeUnpaid_light t f w m0 m1 hv
  · exact feeUnpaid_heavy t f w hv

theorem feeTells_heavy (t : TxV) (f : Int) (w : World) (hv : heavyB t = true) :
    Calls Try.prog 10 #[.agg (txC t).toArray, .int .i64 f] w (Gives (.bool true) w) := by
  have hSt := St.start w t
  go_enter Try.func10, Try.ntmps10
  go_wp2_with fail
  refine (heavy_any t _).mono ?_
  rintro e w1 ⟨rfl, hb1⟩
  rw [hv]
  go_wp2_with fail
  refine (shown13 _).mono ?_
  rintro e w2 ⟨rfl, hb2⟩
  go_wp2_with fail
  go_ret
  exact gives_bool rfl ((hSt.step hb1).step hb2).below

set_option maxHeartbeats 2000000 in
theorem feeTells_light (t : TxV) (f : Int) (w : World) (hv : heavyB t = false) :
    Calls Try.prog 10 #[.agg (txC t).toArray, .int .i64 f] w (Gives (.bool true) w) := by
  have hS := heavy_small hv
  obtain ⟨a0, a1, hc⟩ := act_due hS
  obtain ⟨n, hn⟩ : ∃ n, actN t = n := ⟨_, rfl⟩
  obtain ⟨d, hd⟩ : ∃ d, dueN t = d := ⟨_, rfl⟩
  rw [hn, hd] at hc
  rw [hn] at a0 a1
  have hcv : convN t = d * 5000 := by unfold convN; rw [hd]
  have d0 : 2 ≤ d := by omega
  have d1 : d ≤ 2000000 := by omega
  clear hn hcv hc a0 a1 d0 d1
  clear hd
  have hSt := St.start w t
  go_enter Try.func10, Try.ntmps10
  go_wp2_with fail
  refine (heavy_any t _).mono ?_
  rintro e w1 ⟨rfl, hb1⟩
  rw [hv]
  replace hSt := hSt.step hb1
  clear hb1
  go_wp2_with fail
  refine (shown13 _).mono ?_
  rintro e w2 ⟨rfl, hb2⟩
  replace hSt := hSt.step hb2
  clear hb2
  have hr := hSt.row
  have hsz := hSt.size
  go_wp2_with fail
  (refine region_since (by kernel_rfl) (by kernel_rfl) ?_)
  repeat (first
    | (refine wpQuiet_off rfl ?_; simp only [Act.put, List.setIfInBounds_toArray, List.set_cons_succ, List.set_cons_zero])
    | (refine wpQuiet_on rfl ?_
       apply Exists.intro
       refine ⟨fun w' hw' => ?_, ?_⟩
       · (obtain ⟨hc', hr', hs'⟩ := since_facts hw'
          unfold Oper.quietAt
          go_simp
          try go_bits
          first
            | exact quietUpon_value rfl
            | (apply quietUpon_enter
               first
               | (go_at_call 18; exact calls_since hw' (act_c t _ hS))
               | (go_at_call 28; exact calls_since hw' (ractions_any t _ hS))
               | (go_at_call 19; exact calls_since hw' (conv_c t _ hS))
               | (go_at_call 29; exact calls_since hw' (rconv_c t _ hS))
               | (go_at_call 27; exact calls_since hw' (unpaid_c t _ _ hS))
               | (go_at_call 30; exact calls_since hw' (runpaid_c t _ _ hS))
               | (go_at_call 20; exact calls_since hw' (weight_any t _ _ hS))
               | (go_at_call 31; exact calls_since hw' (rweight_any t _ _ hS))
               | (go_at_call 32; exact calls_since hw' (pays_c t _ _ hS))
               | (go_at_call 33; exact calls_since hw' (rpays_c t _ _ hS))))
       simp only [Act.put, List.setIfInBounds_toArray, List.set_cons_succ, List.set_cons_zero]))
  first
    | refine wpQuiet_nil ?_
    | fail "QUIET stopped"
  intro wq hwq'
  go_wp2
  go_ret
  exact gives_bool rfl (Below.of (since_below hwq') (by omega) hSt.below)

theorem feeTells_walk (t : TxV) (f : Int) (w : World) :
    Calls Try.prog 10 #[.agg (txC t).toArray, .int .i64 f] w (Gives (.bool true) w) := by
  cases hv : heavyB t
  · exact feeTells_light t f w hv
  · exact feeTells_heavy t f w hv

theorem unpaid_mono {t : TxV} {x y : Int} (h : x ≤ y) : unpaidN t y ≤ unpaidN t x := by unfold unpaidN heldN; omega
theorem weight_mono {t : TxV} {x y : Int} (hd : 0 < dueN t) (h : x ≤ y) : weightN t x ≤ weightN t y := by
  unfold weightN
  have : max (min x (4 * (dueN t * 5000))) 0 * 65536 / (dueN t * 5000) ≤ max (min y (4 * (dueN t * 5000))) 0 * 65536 / (dueN t * 5000) := Int.ediv_le_ediv (by omega) (by omega)
  omega
theorem weight_le {t : TxV} {x : Int} (hd : 0 < dueN t) : 1 ≤ weightN t x ∧ weightN t x ≤ 262144 := by
  unfold weightN
  have : max (min x (4 * (dueN t * 5000))) 0 * 65536 / (dueN t * 5000) ≤ 262144 := Int.ediv_le_of_le_mul (by omega) (by omega)
  omega
theorem pays_unpaid {t : TxV} {x : Int} : (paysB t x == (unpaidN t x == 0)) = true := by
  unfold paysB unpaidN heldN
  rw [beq_iff_eq, Bool.eq_iff_iff]; simp; omega
theorem pays_mono {t : TxV} {x y : Int} (h : x ≤ y) (hp : paysB t x = true) : paysB t y = true := by
  unfold paysB heldN at *
  simp at *; omega

theorem feeRises_heavy (t : TxV) (a b : Int) (w : World) (hv : heavyB t = true) :
    Calls Try.prog 11 #[.agg (txC t).toArray, .int .i64 a, .int .i64 b] w (Gives (.bool true) w) := by
  have hSt := St.start w t
  go_enter Try.func11, Try.ntmps11
  go_wp2_with fail
  refine (heavy_any t _).mono ?_
  rintro e w1 ⟨rfl, hb1⟩
  rw [hv]
  go_wp2_with fail
  refine (shown13 _).mono ?_
  rintro e w2 ⟨rfl, hb2⟩
  go_wp2_with fail
  go_ret
  exact gives_bool rfl ((hSt.step hb1).step hb2).below

set_option maxHeartbeats 2000000 in
theorem feeRises_light (t : TxV) (a b : Int) (w : World) (hv : heavyB t = false) :
    Calls Try.prog 11 #[.agg (txC t).toArray, .int .i64 a, .int .i64 b] w (Gives (.bool true) w) := by
  have hS := heavy_small hv
  obtain ⟨a0, a1, hc⟩ := act_due hS
  obtain ⟨n, hn⟩ : ∃ n, actN t = n := ⟨_, rfl⟩
  obtain ⟨d, hd⟩ : ∃ d, dueN t = d := ⟨_, rfl⟩
  rw [hn, hd] at hc
  rw [hn] at a0 a1
  have hcv : convN t = d * 5000 := by unfold convN; rw [hd]
  have d0 : 2 ≤ d := by omega
  have d1 : d ≤ 2000000 := by omega
  have hd0 : 0 < dueN t := by rw [hd]; omega
  clear hn hcv hc a0 a1 d0 d1
  clear hd
  have hSt := St.start w t
  go_enter Try.func11, Try.ntmps11
  go_wp2_with fail
  refine (heavy_any t _).mono ?_
  rintro e w1 ⟨rfl, hb1⟩
  rw [hv]
  replace hSt := hSt.step hb1
  clear hb1
  go_wp2_with fail
  refine (shown13 _).mono ?_
  rintro e w2 ⟨rfl, hb2⟩
  replace hSt := hSt.step hb2
  clear hb2
  have hr := hSt.row
  have hsz := hSt.size
  by_cases hab : a < b
  · skip
    have f1 := unpaid_mono (t := t) (x := a) (y := b) (by omega)
    have f2 := weight_mono (t := t) (x := a) (y := b) hd0 (by omega)
    have f3 := (weight_le (t := t) (x := a) hd0).1
    have f4 := (weight_le (t := t) (x := a) hd0).2
    have f5 := pays_unpaid (t := t) (x := a)
    have f6 := pays_mono (t := t) (x := a) (y := b) (by omega)
    have F6 := Lib.hid f6
    clear f6
    cases hpa : paysB t a
    · have g5 : (unpaidN t a == 0) = false := by rw [hpa] at f5; simpa using f5
      clear f5
      cases hpb : paysB t b
      · go_wp2_with (first | (go_at_call 20; refine (weight_any t _ _ hS).mono ?_; rintro e wn ⟨rfl, hb⟩; replace hSt := hSt.step hb; have hr := hSt.row; have hsz := hSt.size; clear hb))
        (refine region_since (by kernel_rfl) (by kernel_rfl) ?_)
        repeat (first
          | (refine wpQuiet_off rfl ?_; simp only [Act.put, List.setIfInBounds_toArray, List.set_cons_succ, List.set_cons_zero])
          | (refine wpQuiet_on rfl ?_
             apply Exists.intro
             refine ⟨fun w' hw' => ?_, ?_⟩
             · (obtain ⟨hc', hr', hs'⟩ := since_facts hw'
                unfold Oper.quietAt
                go_simp
                try go_bits
                first
                  | exact quietUpon_value rfl
                  | (apply quietUpon_enter
                     first
                     | (go_at_call 27; exact calls_since hw' (unpaid_c t _ _ hS))
                     | (go_at_call 20; exact calls_since hw' (weight_any t _ _ hS))
                     | (go_at_call 32; exact calls_since hw' (pays_c t _ _ hS))))
             simp only [Act.put, List.setIfInBounds_toArray, List.set_cons_succ, List.set_cons_zero]))
        first
          | refine wpQuiet_nil ?_
          | fail "QUIET stopped"
        intro wq hwq'
        go_wp2
        go_ret
        exact gives_bool rfl (Below.of (since_below hwq') (by have := hSt.size; omega) hSt.below)
      · go_wp2_with (first | (go_at_call 20; refine (weight_any t _ _ hS).mono ?_; rintro e wn ⟨rfl, hb⟩; replace hSt := hSt.step hb; have hr := hSt.row; have hsz := hSt.size; clear hb))
        (refine region_since (by kernel_rfl) (by kernel_rfl) ?_)
        repeat (first
          | (refine wpQuiet_off rfl ?_; simp only [Act.put, List.setIfInBounds_toArray, List.set_cons_succ, List.set_cons_zero])
          | (refine wpQuiet_on rfl ?_
             apply Exists.intro
             refine ⟨fun w' hw' => ?_, ?_⟩
             · (obtain ⟨hc', hr', hs'⟩ := since_facts hw'
                unfold Oper.quietAt
                go_simp
                try go_bits
                first
                  | exact quietUpon_value rfl
                  | (apply quietUpon_enter
                     first
                     | (go_at_call 27; exact calls_since hw' (unpaid_c t _ _ hS))
                     | (go_at_call 20; exact calls_since hw' (weight_any t _ _ hS))
                     | (go_at_call 32; exact calls_since hw' (pays_c t _ _ hS))))
             simp only [Act.put, List.setIfInBounds_toArray, List.set_cons_succ, List.set_cons_zero]))
        first
          | refine wpQuiet_nil ?_
          | fail "QUIET stopped"
        intro wq hwq'
        all_goals first
          | (exfalso; have := F6.out; simp_all; done)
          | (go_wp2
             go_ret
             exact gives_bool rfl (Below.of (since_below hwq') (by have := hSt.size; omega) hSt.below))
    · have g5 : (unpaidN t a == 0) = true := by rw [hpa] at f5; simpa using f5
      clear f5
      cases hpb : paysB t b
      · first
          | (exfalso; have := F6.out; simp_all; done)
          | (go_wp2_with (first | (go_at_call 20; refine (weight_any t _ _ hS).mono ?_; rintro e wn ⟨rfl, hb⟩; replace hSt := hSt.step hb; have hr := hSt.row; have hsz := hSt.size; clear hb))
             (refine region_since (by kernel_rfl) (by kernel_rfl) ?_)
             repeat (first
               | (refine wpQuiet_off rfl ?_; simp only [Act.put, List.setIfInBounds_toArray, List.set_cons_succ, List.set_cons_zero])
               | (refine wpQuiet_on rfl ?_
                  apply Exists.intro
                  refine ⟨fun w' hw' => ?_, ?_⟩
                  · (obtain ⟨hc', hr', hs'⟩ := since_facts hw'
                     unfold Oper.quietAt
                     go_simp
                     try go_bits
                     first
                       | exact quietUpon_value rfl
                       | (apply quietUpon_enter
                          first
                          | (go_at_call 27; exact calls_since hw' (unpaid_c t _ _ hS))
                          | (go_at_call 20; exact calls_since hw' (weight_any t _ _ hS))
                          | (go_at_call 32; exact calls_since hw' (pays_c t _ _ hS))))
                  simp only [Act.put, List.setIfInBounds_toArray, List.set_cons_succ, List.set_cons_zero]))
             first
               | refine wpQuiet_nil ?_
               | fail "QUIET stopped"
             intro wq hwq'
             go_wp2
             go_ret
             exact gives_bool rfl (Below.of (since_below hwq') (by have := hSt.size; omega) hSt.below))
      · go_wp2_with (first | (go_at_call 20; refine (weight_any t _ _ hS).mono ?_; rintro e wn ⟨rfl, hb⟩; replace hSt := hSt.step hb; have hr := hSt.row; have hsz := hSt.size; clear hb))
        (refine region_since (by kernel_rfl) (by kernel_rfl) ?_)
        repeat (first
          | (refine wpQuiet_off rfl ?_; simp only [Act.put, List.setIfInBounds_toArray, List.set_cons_succ, List.set_cons_zero])
          | (refine wpQuiet_on rfl ?_
             apply Exists.intro
             refine ⟨fun w' hw' => ?_, ?_⟩
             · (obtain ⟨hc', hr', hs'⟩ := since_facts hw'
                unfold Oper.quietAt
                go_simp
                try go_bits
                first
                  | exact quietUpon_value rfl
                  | (apply quietUpon_enter
                     first
                     | (go_at_call 27; exact calls_since hw' (unpaid_c t _ _ hS))
                     | (go_at_call 20; exact calls_since hw' (weight_any t _ _ hS))
                     | (go_at_call 32; exact calls_since hw' (pays_c t _ _ hS))))
             simp only [Act.put, List.setIfInBounds_toArray, List.set_cons_succ, List.set_cons_zero]))
        first
          | refine wpQuiet_nil ?_
          | fail "QUIET stopped"
        intro wq hwq'
        go_wp2
        go_ret
        exact gives_bool rfl (Below.of (since_below hwq') (by have := hSt.size; omega) hSt.below)
  · by_cases hba : b < a
    · skip
      have f1 := unpaid_mono (t := t) (x := b) (y := a) (by omega)
      have f2 := weight_mono (t := t) (x := b) (y := a) hd0 (by omega)
      have f3 := (weight_le (t := t) (x := b) hd0).1
      have f4 := (weight_le (t := t) (x := b) hd0).2
      have f5 := pays_unpaid (t := t) (x := a)
      have f6 := pays_mono (t := t) (x := b) (y := a) (by omega)
      have F6 := Lib.hid f6
      clear f6
      cases hpa : paysB t a
      · have g5 : (unpaidN t a == 0) = false := by rw [hpa] at f5; simpa using f5
        clear f5
        cases hpb : paysB t b
        · go_wp2_with (first | (go_at_call 20; refine (weight_any t _ _ hS).mono ?_; rintro e wn ⟨rfl, hb⟩; replace hSt := hSt.step hb; have hr := hSt.row; have hsz := hSt.size; clear hb))
          (refine region_since (by kernel_rfl) (by kernel_rfl) ?_)
          repeat (first
            | (refine wpQuiet_off rfl ?_; simp only [Act.put, List.setIfInBounds_toArray, List.set_cons_succ, List.set_cons_zero])
            | (refine wpQuiet_on rfl ?_
               apply Exists.intro
               refine ⟨fun w' hw' => ?_, ?_⟩
               · (obtain ⟨hc', hr', hs'⟩ := since_facts hw'
                  unfold Oper.quietAt
                  go_simp
                  try go_bits
                  first
                    | exact quietUpon_value rfl
                    | (apply quietUpon_enter
                       first
                       | (go_at_call 27; exact calls_since hw' (unpaid_c t _ _ hS))
                       | (go_at_call 20; exact calls_since hw' (weight_any t _ _ hS))
                       | (go_at_call 32; exact calls_since hw' (pays_c t _ _ hS))))
               simp only [Act.put, List.setIfInBounds_toArray, List.set_cons_succ, List.set_cons_zero]))
          first
            | refine wpQuiet_nil ?_
            | fail "QUIET stopped"
          intro wq hwq'
          go_wp2
          go_ret
          exact gives_bool rfl (Below.of (since_below hwq') (by have := hSt.size; omega) hSt.below)
        · go_wp2_with (first | (go_at_call 20; refine (weight_any t _ _ hS).mono ?_; rintro e wn ⟨rfl, hb⟩; replace hSt := hSt.step hb; have hr := hSt.row; have hsz := hSt.size; clear hb))
          (refine region_since (by kernel_rfl) (by kernel_rfl) ?_)
          repeat (first
            | (refine wpQuiet_off rfl ?_; simp only [Act.put, List.setIfInBounds_toArray, List.set_cons_succ, List.set_cons_zero])
            | (refine wpQuiet_on rfl ?_
               apply Exists.intro
               refine ⟨fun w' hw' => ?_, ?_⟩
               · (obtain ⟨hc', hr', hs'⟩ := since_facts hw'
                  unfold Oper.quietAt
                  go_simp
                  try go_bits
                  first
                    | exact quietUpon_value rfl
                    | (apply quietUpon_enter
                       first
                       | (go_at_call 27; exact calls_since hw' (unpaid_c t _ _ hS))
                       | (go_at_call 20; exact calls_since hw' (weight_any t _ _ hS))
                       | (go_at_call 32; exact calls_since hw' (pays_c t _ _ hS))))
               simp only [Act.put, List.setIfInBounds_toArray, List.set_cons_succ, List.set_cons_zero]))
          first
            | refine wpQuiet_nil ?_
            | fail "QUIET stopped"
          intro wq hwq'
          all_goals first
            | (exfalso; have := F6.out; simp_all; done)
            | (go_wp2
               go_ret
               exact gives_bool rfl (Below.of (since_below hwq') (by have := hSt.size; omega) hSt.below))
      · have g5 : (unpaidN t a == 0) = true := by rw [hpa] at f5; simpa using f5
        clear f5
        cases hpb : paysB t b
        · first
            | (exfalso; have := F6.out; simp_all; done)
            | (go_wp2_with (first | (go_at_call 20; refine (weight_any t _ _ hS).mono ?_; rintro e wn ⟨rfl, hb⟩; replace hSt := hSt.step hb; have hr := hSt.row; have hsz := hSt.size; clear hb))
               (refine region_since (by kernel_rfl) (by kernel_rfl) ?_)
               repeat (first
                 | (refine wpQuiet_off rfl ?_; simp only [Act.put, List.setIfInBounds_toArray, List.set_cons_succ, List.set_cons_zero])
                 | (refine wpQuiet_on rfl ?_
                    apply Exists.intro
                    refine ⟨fun w' hw' => ?_, ?_⟩
                    · (obtain ⟨hc', hr', hs'⟩ := since_facts hw'
                       unfold Oper.quietAt
                       go_simp
                       try go_bits
                       first
                         | exact quietUpon_value rfl
                         | (apply quietUpon_enter
                            first
                            | (go_at_call 27; exact calls_since hw' (unpaid_c t _ _ hS))
                            | (go_at_call 20; exact calls_since hw' (weight_any t _ _ hS))
                            | (go_at_call 32; exact calls_since hw' (pays_c t _ _ hS))))
                    simp only [Act.put, List.setIfInBounds_toArray, List.set_cons_succ, List.set_cons_zero]))
               first
                 | refine wpQuiet_nil ?_
                 | fail "QUIET stopped"
               intro wq hwq'
               go_wp2
               go_ret
               exact gives_bool rfl (Below.of (since_below hwq') (by have := hSt.size; omega) hSt.below))
        · go_wp2_with (first | (go_at_call 20; refine (weight_any t _ _ hS).mono ?_; rintro e wn ⟨rfl, hb⟩; replace hSt := hSt.step hb; have hr := hSt.row; have hsz := hSt.size; clear hb))
          (refine region_since (by kernel_rfl) (by kernel_rfl) ?_)
          repeat (first
            | (refine wpQuiet_off rfl ?_; simp only [Act.put, List.setIfInBounds_toArray, List.set_cons_succ, List.set_cons_zero])
            | (refine wpQuiet_on rfl ?_
               apply Exists.intro
               refine ⟨fun w' hw' => ?_, ?_⟩
               · (obtain ⟨hc', hr', hs'⟩ := since_facts hw'
                  unfold Oper.quietAt
                  go_simp
                  try go_bits
                  first
                    | exact quietUpon_value rfl
                    | (apply quietUpon_enter
                       first
                       | (go_at_call 27; exact calls_since hw' (unpaid_c t _ _ hS))
                       | (go_at_call 20; exact calls_since hw' (weight_any t _ _ hS))
                       | (go_at_call 32; exact calls_since hw' (pays_c t _ _ hS))))
               simp only [Act.put, List.setIfInBounds_toArray, List.set_cons_succ, List.set_cons_zero]))
          first
            | refine wpQuiet_nil ?_
            | fail "QUIET stopped"
          intro wq hwq'
          go_wp2
          go_ret
          exact gives_bool rfl (Below.of (since_below hwq') (by have := hSt.size; omega) hSt.below)
    · obtain rfl : a = b := by omega
      have f3 := (weight_le (t := t) (x := a) hd0).1
      have f4 := (weight_le (t := t) (x := a) hd0).2
      have f5 := pays_unpaid (t := t) (x := a)
      cases hpa : paysB t a
      · have g5 : (unpaidN t a == 0) = false := by rw [hpa] at f5; simpa using f5
        clear f5
        go_wp2_with (first | (go_at_call 20; refine (weight_any t _ _ hS).mono ?_; rintro e wn ⟨rfl, hb⟩; replace hSt := hSt.step hb; have hr := hSt.row; have hsz := hSt.size; clear hb))
        (refine region_since (by kernel_rfl) (by kernel_rfl) ?_)
        repeat (first
          | (refine wpQuiet_off rfl ?_; simp only [Act.put, List.setIfInBounds_toArray, List.set_cons_succ, List.set_cons_zero])
          | (refine wpQuiet_on rfl ?_
             apply Exists.intro
             refine ⟨fun w' hw' => ?_, ?_⟩
             · (obtain ⟨hc', hr', hs'⟩ := since_facts hw'
                unfold Oper.quietAt
                go_simp
                try go_bits
                first
                  | exact quietUpon_value rfl
                  | (apply quietUpon_enter
                     first
                     | (go_at_call 27; exact calls_since hw' (unpaid_c t _ _ hS))
                     | (go_at_call 20; exact calls_since hw' (weight_any t _ _ hS))
                     | (go_at_call 32; exact calls_since hw' (pays_c t _ _ hS))))
             simp only [Act.put, List.setIfInBounds_toArray, List.set_cons_succ, List.set_cons_zero]))
        first
          | refine wpQuiet_nil ?_
          | fail "QUIET stopped"
        intro wq hwq'
        go_wp2
        go_ret
        exact gives_bool rfl (Below.of (since_below hwq') (by have := hSt.size; omega) hSt.below)
      · have g5 : (unpaidN t a == 0) = true := by rw [hpa] at f5; simpa using f5
        clear f5
        go_wp2_with (first | (go_at_call 20; refine (weight_any t _ _ hS).mono ?_; rintro e wn ⟨rfl, hb⟩; replace hSt := hSt.step hb; have hr := hSt.row; have hsz := hSt.size; clear hb))
        (refine region_since (by kernel_rfl) (by kernel_rfl) ?_)
        repeat (first
          | (refine wpQuiet_off rfl ?_; simp only [Act.put, List.setIfInBounds_toArray, List.set_cons_succ, List.set_cons_zero])
          | (refine wpQuiet_on rfl ?_
             apply Exists.intro
             refine ⟨fun w' hw' => ?_, ?_⟩
             · (obtain ⟨hc', hr', hs'⟩ := since_facts hw'
                unfold Oper.quietAt
                go_simp
                try go_bits
                first
                  | exact quietUpon_value rfl
                  | (apply quietUpon_enter
                     first
                     | (go_at_call 27; exact calls_since hw' (unpaid_c t _ _ hS))
                     | (go_at_call 20; exact calls_since hw' (weight_any t _ _ hS))
                     | (go_at_call 32; exact calls_since hw' (pays_c t _ _ hS))))
             simp only [Act.put, List.setIfInBounds_toArray, List.set_cons_succ, List.set_cons_zero]))
        first
          | refine wpQuiet_nil ?_
          | fail "QUIET stopped"
        intro wq hwq'
        go_wp2
        go_ret
        exact gives_bool rfl (Below.of (since_below hwq') (by have := hSt.size; omega) hSt.below)

theorem feeRises_walk (t : TxV) (a b : Int) (w : World) :
    Calls Try.prog 11 #[.agg (txC t).toArray, .int .i64 a, .int .i64 b] w (Gives (.bool true) w) := by
  cases hv : heavyB t
  · exact feeRises_light t a b w hv
  · exact feeRises_heavy t a b w hv

end Go.Proofs.Ytoojmcijldlinaa
