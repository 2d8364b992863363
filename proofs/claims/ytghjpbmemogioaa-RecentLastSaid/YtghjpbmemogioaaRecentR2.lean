/- The reference of layer 18: Has, Put, Same of equal lists. -/
import Derived.Test.YtghjpbmemogioaaRecentR
namespace Go.Proofs.Ytghjpbmemogioaa
set_option maxRecDepth 100000
open Go.RowKit
set_option linter.unusedVariables false
set_option linter.unusedSimpArgs false
attribute [local irreducible] Int.lt Int.le
attribute [local go_sem ↓] load_key store_key alloc_key build0_key eq_key load_it store_it alloc_it one_it make_it append_it build_it eq_it exec_clear load_rit store_rit alloc_rit one_rit make_rit append_rit build_rit eq_rit
attribute [local go_sem] rowOf_drew rowOf_alloc_old rowOf_alloc_new canPut_drew canPut_alloc_old canPut_alloc_new setCells_alloc_new

theorem hasB_any (l : List ItemV) (k : Key) (now : Int) : hasB l k now = l.any fun x => (x.id == k) && youngB now x := by
  unfold hasB
  rw [List.any_filter]
  congr 1
  funext x
  rw [Bool.and_comm]
theorem hasB_nil (k : Key) (now : Int) : hasB [] k now = false := by rw [hasB_any]; rfl
theorem hasB_cons (x : ItemV) (l : List ItemV) (k : Key) (now : Int) : hasB (x :: l) k now = ((x.id == k && youngB now x) || hasB l k now) := by rw [hasB_any, hasB_any]; rfl
theorem hasB_drop {l : List ItemV} {j : Nat} {v : ItemV} (hx : l[j]? = some v) (k : Key) (now : Int) : hasB (l.drop j) k now = ((v.id == k && youngB now v) || hasB (l.drop (j + 1)) k now) := by
  have h := List.getElem?_eq_some_iff.1 hx
  rw [List.drop_eq_getElem_cons h.1, h.2, hasB_cons]

set_option maxHeartbeats 1000000 in
theorem rhas_any (a : Option Addr) (n c : Nat) (l : List ItemV) (k : Key) (now : Int) (W : World) (h : IL W a n c l) (hn : n ≤ 100000) (hok : ∀ x ∈ l, okI x) (hnow : 0 ≤ now ∧ now < 18446744073709551616) :
    Calls Try.prog 30 #[.slice a n c, .agg (keyC k).toArray, .int .u64 now] W (Gives (.bool (hasB l k now)) W) := by
  have hl := Box.mk h.1
  have H := Box.mk h
  have hcap := h.2.1
  replace hok := Box.mk hok
  replace hnow := Box.mk hnow
  clear h
  go_enter Try.func30, Try.ntmps30
  go_wp2_with fail
  have hB0 : Below W.heap.size W (W.alloc (.cells (keyC k).toArray 40)) := (Below.refl _ _).alloc (Nat.le_refl _) _
  have hr0 : rowOf (W.alloc (.cells (keyC k).toArray 40)) W.heap.size 0 32 = some (keyC k) := rowOf_alloc_new _ _ _ _ _ _ rfl (keyC_length k)
  obtain ⟨w1, hw1⟩ : ∃ w1, w1 = W.alloc (.cells (keyC k).toArray 40) := ⟨_, rfl⟩
  have hsz1 : w1.heap.size = W.heap.size + 1 := by rw [hw1]; simp
  rw [← hw1] at hB0 hr0 ⊢
  replace hw1 := Box.mk hw1
  go_loopw [7] (fun i wr => Below w1.heap.size w1 wr ∧ ∃ j : Nat, j ≤ n ∧ i = .int .i64 j ∧ hasB l k now = hasB (l.drop j) k now) (fun i _ => n - (intOf i).toNat)
  case atStart => exact ⟨Below.refl _ _, 0, Nat.zero_le _, rfl, by rw [List.drop_zero]⟩
  case round =>
    obtain ⟨hbr, j, hj, rfl, hlk⟩ := hrel
    have hsz := hbr.size
    by_cases hlt : j < n
    · have hlt' : (j : Int) < (n : Int) := by omega
      have hjl : j < l.length := by rw [← hl.out]; exact hlt
      have hx : l[j]? = some l[j] := List.getElem?_eq_getElem hjl
      have hyv := hok.out l[j] (List.getElem_mem hjl)
      obtain ⟨b, o, rfl, hb, hr⟩ := SL.elem itC_length H.out hx
      have R1 : rowOf wr b (o + j * 33) 33 = some (itC l[j]) := by rw [rowOf_congr (hbr.block b (by omega)), rowOf_congr (hB0.block b hb)]; exact hr
      have R2 : rowOf wr W.heap.size 0 32 = some (keyC k) := by rw [rowOf_congr (hbr.block _ (by omega))]; exact hr0
      have s1 : b < wr.heap.size := by omega
      have s2 : W.heap.size < wr.heap.size := by omega
      have hd := hasB_drop hx k now
      generalize l[j] = v at *
      obtain ⟨F1, F2⟩ := it_at R1
      replace hx := Box.mk hx
      replace hr := Box.mk hr
      rw [hd] at hlk
      replace hd := Box.mk hd
      replace F2 := Box.mk F2
      have hY := Box.mk (fun (w' : World) => ryoung_any v now w' hyv hnow.out)
      replace hyv := Box.mk hyv
      cases hk : (v.id == k)
      · rw [hk, Bool.false_and, Bool.false_or] at hlk
        replace hlk := Box.mk hlk
        go_wp2_with fail
        (refine region_since (by kernel_rfl) (by kernel_rfl) ?_)
        repeat (first
          | (refine wpQuiet_goff rfl rfl rfl rfl ?_; simp only [Act.put, List.setIfInBounds_toArray, List.set_cons_succ, List.set_cons_zero])
          | (first
               | refine wpQuiet_free rfl ?_
               | refine wpQuiet_gon rfl rfl rfl rfl ?_
             apply Exists.intro
             refine ⟨fun w' hw' => ?_, ?_⟩
             · (obtain ⟨hc', hr', hs'⟩ := since_facts hw'
                unfold Oper.quietAt
                go_simp
                try go_bits
                first
                  | exact quietUpon_value rfl
                  | exact rfl
                  | (apply quietUpon_enter
                     first
                     | fail))
             simp only [Act.put, List.setIfInBounds_toArray, List.set_cons_succ, List.set_cons_zero]))
        first
          | refine wpQuiet_nil ?_
          | fail "QUIET stopped"
        intro wq hwq'
        go_wp2
        go_roundw
        case rel => exact ⟨since_next hbr hwq', j + 1, by omega, by go_num, hlk.out⟩
        case measure => simp [intOf]; omega
      · rw [hk, Bool.true_and] at hlk
        cases hy : youngB now v
        · rw [hy, Bool.false_or] at hlk
          rw [hy] at hY
          replace hlk := Box.mk hlk
          replace hy := Box.mk hy
          go_wp2_with fail
          (refine region_since (by kernel_rfl) (by kernel_rfl) ?_)
          repeat (first
            | (refine wpQuiet_goff rfl rfl rfl rfl ?_; simp only [Act.put, List.setIfInBounds_toArray, List.set_cons_succ, List.set_cons_zero])
            | (first
                 | refine wpQuiet_free rfl ?_
                 | refine wpQuiet_gon rfl rfl rfl rfl ?_
               apply Exists.intro
               refine ⟨fun w' hw' => ?_, ?_⟩
               · (obtain ⟨hc', hr', hs'⟩ := since_facts hw'
                  unfold Oper.quietAt
                  go_simp
                  try go_bits
                  first
                    | exact quietUpon_value rfl
                    | exact rfl
                    | (apply quietUpon_enter
                       first
                       | (go_at_call 44; exact calls_since hw' (hY.out _))))
               simp only [Act.put, List.setIfInBounds_toArray, List.set_cons_succ, List.set_cons_zero]))
          first
            | refine wpQuiet_nil ?_
            | fail "QUIET stopped"
          intro wq hwq'
          go_wp2
          go_roundw
          case rel => exact ⟨since_next hbr hwq', j + 1, by omega, by go_num, hlk.out⟩
          case measure => simp [intOf]; omega
        · rw [hy, Bool.true_or] at hlk
          rw [hy] at hY
          replace hlk := Box.mk hlk
          replace hy := Box.mk hy
          go_wp2_with fail
          (refine region_since (by kernel_rfl) (by kernel_rfl) ?_)
          repeat (first
            | (refine wpQuiet_goff rfl rfl rfl rfl ?_; simp only [Act.put, List.setIfInBounds_toArray, List.set_cons_succ, List.set_cons_zero])
            | (first
                 | refine wpQuiet_free rfl ?_
                 | refine wpQuiet_gon rfl rfl rfl rfl ?_
               apply Exists.intro
               refine ⟨fun w' hw' => ?_, ?_⟩
               · (obtain ⟨hc', hr', hs'⟩ := since_facts hw'
                  unfold Oper.quietAt
                  go_simp
                  try go_bits
                  first
                    | exact quietUpon_value rfl
                    | exact rfl
                    | (apply quietUpon_enter
                       first
                       | (go_at_call 44; exact calls_since hw' (hY.out _))))
               simp only [Act.put, List.setIfInBounds_toArray, List.set_cons_succ, List.set_cons_zero]))
          first
            | refine wpQuiet_nil ?_
            | fail "QUIET stopped"
          intro wq hwq'
          go_wp2
          go_ret
          exact gives_bool hlk.out.symm (hB0.trans ((since_next hbr hwq').mono (by omega)))
    · obtain rfl : j = n := by omega
      have hf : hasB l k now = false := by rw [hlk, hl.out, List.drop_length, hasB_nil]
      replace hf := Box.mk hf
      replace hlk := Box.mk hlk
      go_wp2
      go_ret
      exact gives_bool hf.out.symm (hB0.trans (hbr.mono (by omega)))

theorem itB_self (v : ItemV) : itB v v = true := by unfold itB; simp

set_option maxHeartbeats 1000000 in
theorem rsame_any (a a' : Option Addr) (n n' c c' : Nat) (l : List ItemV) (W : World) (h : IL W a n c l) (h' : IL W a' n' c' l) (hn : n ≤ 100000) : Calls Try.prog 25 #[.slice a n c, .slice a' n' c'] W (Gives (.bool true) W) := by
  have hl := Box.mk h.1
  have H := Box.mk h
  have H' := Box.mk h'
  have hcap := h.2.1
  have hcap' := h'.2.1
  obtain rfl : n' = n := by rw [h.1, h'.1]
  clear h h'
  go_enter Try.func25, Try.ntmps25
  go_wp2_with fail
  go_loopw [5] (fun i wr => Below W.heap.size W wr ∧ ∃ j : Nat, j ≤ n' ∧ i = .int .i64 j) (fun i _ => n' - (intOf i).toNat)
  case atStart => exact ⟨Below.refl _ _, 0, Nat.zero_le _, rfl⟩
  case round =>
    obtain ⟨hbr, j, hj, rfl⟩ := hrel
    have hsz := hbr.size
    by_cases hlt : j < n'
    · have hlt' : (j : Int) < (n' : Int) := by omega
      have hjl : j < l.length := by rw [← hl.out]; exact hlt
      have hx : l[j]? = some l[j] := List.getElem?_eq_getElem hjl
      obtain ⟨b, o, rfl, hb, hr⟩ := SL.elem itC_length H.out hx
      obtain ⟨b', o', rfl, hb', hr'⟩ := SL.elem itC_length H'.out hx
      have R1 : rowOf wr b (o + j * 33) 33 = some (itC l[j]) := by rw [rowOf_congr (hbr.block b hb)]; exact hr
      have R2 : rowOf wr b' (o' + j * 33) 33 = some (itC l[j]) := by rw [rowOf_congr (hbr.block b' hb')]; exact hr'
      have s1 : b < wr.heap.size := by omega
      have s2 : b' < wr.heap.size := by omega
      generalize l[j] = v at *
      have hs := itB_self v
      replace hx := Box.mk hx
      replace hr := Box.mk hr
      replace hr' := Box.mk hr'
      go_wp2_with fail
      (refine region_since (by kernel_rfl) (by kernel_rfl) ?_)
      repeat (first
        | (refine wpQuiet_goff rfl rfl rfl rfl ?_; simp only [Act.put, List.setIfInBounds_toArray, List.set_cons_succ, List.set_cons_zero])
        | (first
             | refine wpQuiet_free rfl ?_
             | refine wpQuiet_gon rfl rfl rfl rfl ?_
           apply Exists.intro
           refine ⟨fun w' hw' => ?_, ?_⟩
           · (obtain ⟨hc', hr', hs'⟩ := since_facts hw'
              unfold Oper.quietAt
              go_simp
              try go_bits
              first
                | exact quietUpon_value rfl
                | exact rfl
                | (apply quietUpon_enter
                   first
                   | fail))
           simp only [Act.put, List.setIfInBounds_toArray, List.set_cons_succ, List.set_cons_zero]))
      first
        | refine wpQuiet_nil ?_
        | fail "QUIET stopped"
      intro wq hwq'
      go_wp2
      go_roundw
      case rel => exact ⟨since_next hbr hwq', j + 1, by omega, by go_num⟩
      case measure => simp [intOf]; omega
    · obtain rfl : j = n' := by omega
      go_wp2
      go_ret
      exact gives_bool rfl hbr

end Go.Proofs.Ytghjpbmemogioaa
