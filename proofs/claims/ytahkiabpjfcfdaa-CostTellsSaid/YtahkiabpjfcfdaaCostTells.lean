/- Layer 14: what any transaction costs, and weighs, what any weights come to, and which one any draw picks, is the document's. -/
import Derived.Test.YtahkiabpjfcfdaaCost3
import Derived.Test.YtahkiabpjfcfdaaU8s
namespace Go.Proofs.Ytahkiabpjfcfdaa
open Go.RowKit
set_option linter.unusedVariables false
set_option linter.unusedSimpArgs false
set_option maxRecDepth 100000
attribute [local irreducible] Int.lt Int.le

theorem okW_take {l : List Int} {n : Nat} (h : okW l) : okW (l.take n) := fun x hx => h x (List.mem_of_mem_take hx)
theorem okW_snoc {l : List Int} {j : Nat} {x : Int} (h : okW (l.take j)) (hx : l[j]? = some x) (h1 : 1 ≤ x ∧ x ≤ 1099511627776) : okW (l.take (j + 1)) := by
  intro y hy
  rw [List.take_add_one, hx] at hy
  rcases List.mem_append.1 hy with hy | hy
  · exact h y hy
  · simp at hy; subst hy; exact h1
theorem not_okW {l : List Int} {j : Nat} {x : Int} (hx : l[j]? = some x) (h : ¬ (1 ≤ x ∧ x ≤ 1099511627776)) : ¬ okW l := fun ho => h (ho x (List.mem_of_getElem? hx))

set_option maxHeartbeats 2000000 in
theorem refSum14_any (a : Option Addr) (len cap : Nat) (zs : List Int) (W : World) (hI : IL W a len cap zs) (hl : len ≤ 1200) : Calls Try.prog 18 #[.slice a len cap] W (Gives (val2 (sumV zs)) W) := by
  obtain rfl : len = zs.length := hI.1.1
  generalize hL : zs.length = L at *
  unfold val2
  obtain ⟨sm, hsm⟩ : ∃ sm, sumV zs = sm := ⟨_, rfl⟩
  rw [hsm]
  have hb := Box.mk hI
  clear hI
  go_enter Try.func18, Try.ntmps18
  go_wp2_with fail
  go_loopw [4, 5] (fun v i wr => wr = W ∧ ∃ j : Nat, j ≤ L ∧ i = .int .i64 j ∧ okW (zs.take j) ∧ v = .int .i64 ((zs.take (min j 1000)).sum)) (fun _ i _ => L - (intOf i).toNat)
  case atStart => exact ⟨rfl, 0, Nat.zero_le _, rfl, fun x hx => by simp at hx, by simp⟩
  case round =>
    obtain ⟨rfl, j, hj, rfl, hok, rfl⟩ := hrel
    have hs := okW_sum (l := zs.take (min j 1000)) (by rw [show zs.take (min j 1000) = (zs.take j).take (min j 1000) by rw [List.take_take]; congr 1; omega]; exact okW_take hok)
    rw [List.length_take] at hs
    have hs0 : 0 ≤ (zs.take (min j 1000)).sum := by omega
    have hs1 : (zs.take (min j 1000)).sum ≤ 1099511627776000 := by omega
    obtain ⟨S, hS⟩ : ∃ S, (zs.take (min j 1000)).sum = S := ⟨_, rfl⟩
    rw [hS] at hs0 hs1
    rw [hS]
    clear hs
    by_cases hlt : j < L
    · have hlt' : (j : Int) < (L : Int) := by omega
      obtain ⟨x, hx⟩ : ∃ x, zs[j]? = some x := ⟨_, List.getElem?_eq_getElem (by omega)⟩
      have hx6 := hb.out.2 x (List.mem_of_getElem? hx)
      obtain ⟨b, o, rfl, hb1, hc⟩ := hb.out.at hx
      have hx7 : -9223372036854775808 ≤ x ∧ x ≤ 9223372036854775807 := by unfold I64 at hx6; omega
      by_cases hx1 : x < 1
      · have hbad := sumV_bad (l := zs) (fun h => not_okW hx (by omega) h.1)
        rw [hsm] at hbad
        subst hbad
        replace hok := Box.mk hok
        replace hx := Box.mk hx
        replace hS := Box.mk hS
        go_wp2
        go_ret2
        exact ⟨rfl, Below.refl _ _⟩
      · by_cases hx2 : 1099511627776 < x
        · have hbad := sumV_bad (l := zs) (fun h => not_okW hx (by omega) h.1)
          rw [hsm] at hbad
          subst hbad
          replace hok := Box.mk hok
          replace hx := Box.mk hx
          replace hS := Box.mk hS
          go_wp2
          go_ret2
          exact ⟨rfl, Below.refl _ _⟩
        · have hok2 := Box.mk (okW_snoc hok hx ⟨by omega, by omega⟩)
          replace hok := Box.mk hok
          by_cases hj1 : (j : Int) < 1000
          · have hS2 : (zs.take (min (j + 1) 1000)).sum = S + x := by rw [show min (j + 1) 1000 = j + 1 by omega, take_sum_succ hx, ← hS, show min j 1000 = j by omega]
            replace hS2 := Box.mk hS2
            replace hx := Box.mk hx
            replace hS := Box.mk hS
            go_wp2
            go_roundw
            case rel => exact ⟨trivial, j + 1, by omega, by go_num, hok2.out, by rw [hS2.out]⟩
            case measure => simp [intOf]; omega
          · have hS2 : (zs.take (min (j + 1) 1000)).sum = S := by rw [show min (j + 1) 1000 = min j 1000 by omega, hS]
            replace hS2 := Box.mk hS2
            replace hx := Box.mk hx
            replace hS := Box.mk hS
            go_wp2
            go_roundw
            case rel => exact ⟨trivial, j + 1, by omega, by go_num, hok2.out, by rw [hS2.out]⟩
            case measure => simp [intOf]; omega
    · obtain rfl : j = L := by omega
      have hge : ¬ (j : Int) < (j : Int) := by omega
      rw [show zs.take j = zs by rw [← hL, List.take_length]] at hok
      by_cases hj1 : 1000 < (j : Int)
      · have hbad := sumV_bad (l := zs) (fun h => by have := h.2; omega)
        rw [hsm] at hbad
        subst hbad
        replace hok := Box.mk hok
        replace hS := Box.mk hS
        go_wp2
        go_ret2
        exact ⟨rfl, Below.refl _ _⟩
      · have hgood := sumV_ok hok (by omega)
        rw [hsm] at hgood
        subst hgood
        rw [show min j 1000 = j by omega, show zs.take j = zs by rw [← hL, List.take_length]] at hS
        subst hS
        replace hok := Box.mk hok
        generalize hQ : zs.sum = S at *
        replace hQ := Box.mk hQ
        go_wp2
        go_ret2
        exact ⟨rfl, Below.refl _ _⟩

theorem pickI_step {zs : List Int} {k : Nat} {n : Int} {x : Int} (hx : zs[k]? = some x) (h : ¬ n < x) : k + pickI (zs.drop k) n = (k + 1) + pickI (zs.drop (k + 1)) (n - x) := by
  have hk : k < zs.length := (List.getElem?_eq_some_iff.1 hx).1
  rw [List.drop_eq_getElem_cons hk, pickI, (List.getElem?_eq_some_iff.1 hx).2, if_neg h]; omega
theorem pickI_here {zs : List Int} {k : Nat} {n : Int} {x : Int} (hx : zs[k]? = some x) (h : n < x) : k + pickI (zs.drop k) n = k := by
  have hk : k < zs.length := (List.getElem?_eq_some_iff.1 hx).1
  rw [List.drop_eq_getElem_cons hk, pickI, (List.getElem?_eq_some_iff.1 hx).2, if_pos h]; rfl
theorem drop_sum {zs : List Int} {k : Nat} {x : Int} (hx : zs[k]? = some x) : (zs.drop k).sum = x + (zs.drop (k + 1)).sum := by
  have hk : k < zs.length := (List.getElem?_eq_some_iff.1 hx).1
  rw [List.drop_eq_getElem_cons hk, List.sum_cons, (List.getElem?_eq_some_iff.1 hx).2]

set_option maxHeartbeats 2000000 in
theorem refPick14_any (a : Option Addr) (len cap : Nat) (zs : List Int) (draw : Nat) (hd : draw < 18446744073709551616) (W : World) (hI : IL W a len cap zs) (hl : len ≤ 1200) : Calls Try.prog 19 #[.slice a len cap, .int .u64 draw] W (Gives (val2 (pickV zs draw)) W) := by
  have hr := sumV_range zs
  have cs := Box.mk (fun w h => refSum14_any a len cap zs w h hl)
  have hsd : ∀ h0 : (sumV zs).1 ≠ 0, _ := fun h0 => sums_last h0
  unfold val2 at cs ⊢
  unfold pickV
  obtain ⟨sm, hsm⟩ : ∃ sm, sumV zs = sm := ⟨_, rfl⟩
  rw [hsm] at hr hsd cs
  rw [hsm]
  obtain ⟨sm, is⟩ := sm
  replace hI := Box.mk hI
  by_cases h0 : sm = 0
  · subst h0
    simp only [if_pos]
    have hsd' := Box.mk hsd
    clear hsd hr
    replace hsm := Box.mk hsm
    go_enter Try.func19, Try.ntmps19
    go_wp2_with fail
    refine (cs.out _ hI.out).mono ?_
    rintro e w1 ⟨rfl, hb1⟩
    cases is <;> (go_wp2; go_ret2; exact ⟨rfl, hb1⟩)
  · obtain ⟨ho, hl2, he, _⟩ := hsd h0
    clear hsd
    have hgood := sumV_ok ho hl2
    rw [hsm] at hgood
    injection hgood with h1 h2
    subst h2
    obtain ⟨d, hdd⟩ : ∃ d : Nat, (draw : Int) % sm = d := ⟨((draw : Int) % sm).toNat, by have := Int.emod_nonneg (draw : Int) h0; omega⟩
    have hpos : 0 < sm := by have := hr.1; simp only at this; omega
    have hmax : sm ≤ 1099511627776000 := hr.2
    have hdl : (d : Int) < sm := by rw [← hdd]; exact Int.emod_lt_of_pos _ hpos
    rw [if_neg (show ¬ ((sm, true) : Int × Bool).1 = 0 from h0)]
    show Calls _ _ _ _ (Gives (.tuple #[.int .i64 ((pickI zs ((draw : Int) % sm) : Nat) : Int), .bool true]) W)
    rw [hdd]
    obtain ⟨P, hP⟩ : ∃ P, pickI zs d = P := ⟨_, rfl⟩
    rw [hP]
    replace hP := Box.mk hP
    have hlen := Box.mk hI.out.1.1
    have u4 : (d : Int) ≤ 9223372036854775807 := by omega
    replace hdl := Box.mk hdl
    have u5 : ¬ sm < 0 := by omega
    replace he := Box.mk he
    clear hr
    replace hsm := Box.mk hsm
    replace ho := Box.mk ho
    have e1 : sm % 18446744073709551616 = sm := by omega
    replace h1 := Box.mk h1
    go_enter Try.func19, Try.ntmps19
    go_wp2_with fail
    refine (cs.out _ hI.out).mono ?_
    rintro e w1 ⟨rfl, hb1⟩
    have hI1 := Box.mk (hI.out.below hb1)
    go_wp2_with fail
    go_loopw [8, 9] (fun v i wr => wr = w1 ∧ ∃ (k : Nat) (n : Int), k ≤ len ∧ i = .int .i64 k ∧ v = .int .i64 n ∧ 0 ≤ n ∧ n ≤ d ∧ n < (zs.drop k).sum ∧ k + pickI (zs.drop k) n = P) (fun _ i _ => len - (intOf i).toNat)
    case atStart => exact ⟨rfl, 0, d, Nat.zero_le _, rfl, rfl, by omega, Int.le_refl _, by rw [List.drop_zero, ← h1.out]; exact hdl.out, by rw [List.drop_zero, hP.out]; omega⟩
    replace hdd := Box.mk hdd
    case round =>
      have hlen := hlen.out
      obtain ⟨rfl, k, n, hk, rfl, rfl, hn0, hn1, hn2, hn3⟩ := hrel
      by_cases hlt : k < len
      · obtain ⟨x, hx⟩ : ∃ x, zs[k]? = some x := ⟨_, List.getElem?_eq_getElem (by omega)⟩
        have hlt' : (k : Int) < (len : Int) := by omega
        obtain ⟨b, o, rfl, hb5, hc⟩ := hI1.out.at hx
        have hx6 := ho.out x (List.mem_of_getElem? hx)
        have hx1 := hx6.1
        have hx2 := hx6.2
        clear hx6
        by_cases hnx : n < x
        · have hnx' : ¬ x ≤ n := by omega
          rw [pickI_here hx hnx] at hn3
          subst hn3
          replace hx := Box.mk hx
          replace hn2 := Box.mk hn2
          go_wp2
          go_ret2
          exact ⟨rfl, hb1⟩
        · have hnx' : x ≤ n := by omega
          rw [pickI_step hx hnx] at hn3
          rw [drop_sum hx] at hn2
          have hn4 : n - x < (zs.drop (k + 1)).sum := by omega
          replace hx := Box.mk hx
          replace hn4 := Box.mk hn4
          replace hn3 := Box.mk hn3
          clear hn2
          go_wp2
          go_roundw
          case rel => exact ⟨trivial, k + 1, n - x, by omega, by go_num, rfl, by omega, by omega, hn4.out, hn3.out⟩
          case measure => simp [intOf]; omega
      · exfalso
        rw [List.drop_eq_nil_of_le (by omega)] at hn2
        simp at hn2
        omega

attribute [local go_sem ↓] load_key store_key alloc_key build0_key eq_key load_tx store_tx alloc_tx build0_tx
attribute [local go_sem] rowOf_drew rowOf_alloc_old rowOf_alloc_new canPut_drew canPut_alloc_old canPut_alloc_new setCells_alloc_new
set_option maxHeartbeats 4000000 in
theorem costTells_walk (t : TxV) (d : TxD) (n : Int) (a : Option Addr) (len cap : Nat) (zs : List Int) (draw : Nat) (hdr : draw < 18446744073709551616) (W : World) (h : TxL W t d) (hI : IL W a len cap zs) : Calls Try.prog 6 #[.agg (txC t).toArray, .int .i64 n, .slice a len cap, .int .u64 draw] W (LawEnd W) := by
  have hB0 : Below W.heap.size W (W.alloc (.cells (txC t).toArray 41)) := (Below.refl _ _).alloc (Nat.le_refl _) _
  have hH0 := heap_alloc_new W (.cells (txC t).toArray 41)
  have h0 := Box.mk (h.below hB0)
  have hI0 := Box.mk (hI.below hB0)
  have hP : ∀ w, SinceP (W.alloc (.cells (txC t).toArray 41)) w → (rowOf w W.heap.size 0 38 = some (txC t) ∧ W.heap.size < w.heap.size) := fun w hw =>
    ⟨tx_row38 ((hw.out.block _ (by simp)).trans hH0), Nat.lt_of_lt_of_le (by simp) hw.out.size⟩
  have hP0 : SinceP (W.alloc (.cells (txC t).toArray 41)) (W.alloc (.cells (txC t).toArray 41)) := SinceP.refl _
  replace h := Box.mk h
  replace hP := Box.mk hP
  replace hH0 := Box.mk hH0
  have hw14 := Box.mk (heavy14_any t)
  replace hI := Box.mk hI
  by_cases hgo : heavyB t = false ∧ len ≤ 1200
  · obtain ⟨hv, hl⟩ := hgo
    have hs := heavy14_small hv
    rw [hv] at hw14
    have hl' : ¬ (1200 : Int) < (len : Int) := by omega
    have c1 := Box.mk (fun w h => costSum_any a len cap zs w h)
    have c2 := Box.mk (fun w h => refSum14_any a len cap zs w h hl)
    have c3 := Box.mk (fun w h => costPick_any a len cap zs draw hdr w h)
    have c4 := Box.mk (fun w h => refPick14_any a len cap zs draw hdr w h hl)
    have c5 := Box.mk (fun w hw => cost_any t d w hw)
    have c6 := Box.mk (fun w hw => refCost_any t d w hw)
    have c7 := Box.mk (fun w hw => costWeight_any t d n w hw hs)
    have c8 := Box.mk (fun w hw => refWeight_any t d n w hw hs)
    unfold val2 at c1 c2 c3 c4
    generalize sumV zs = A at *
    generalize pickV zs draw = B at *
    generalize costN d = C at *
    generalize weightV t d n = V at *
    obtain ⟨A1, A2⟩ := A
    obtain ⟨B1, B2⟩ := B
    simp only at c1 c2 c3 c4
    replace hs := Box.mk hs
    replace hv := Box.mk hv
    clear hl
    go_enter Try.func6, Try.ntmps6
    go_wp2_with fail
    refine (hw14.out _).mono ?_
    rintro e w1 ⟨rfl, hb1⟩
    have q1 := hP0.next hb1
    go_wp2_with fail
    refine (shown14 _).mono ?_
    rintro e w2 ⟨rfl, hb2⟩
    have q2 := q1.next hb2
    clear hb1 hb2
    go_wp2_with fail
    refine (c1.out _ (hI0.out.below q2.out)).mono ?_
    rintro e w3 ⟨rfl, hb3⟩
    have q3 := q2.next hb3
    clear hb3
    go_wp2_with fail
    refine (c2.out _ (hI0.out.below q3.out)).mono ?_
    rintro e w4 ⟨rfl, hb4⟩
    have q4 := q3.next hb4
    clear hb4
    go_wp2_with fail
    refine (c3.out _ (hI0.out.below q4.out)).mono ?_
    rintro e w5 ⟨rfl, hb5⟩
    have q5 := q4.next hb5
    clear hb5
    go_wp2_with fail
    refine (c4.out _ (hI0.out.below q5.out)).mono ?_
    rintro e w6 ⟨rfl, hb6⟩
    have q6 := q5.next hb6
    clear hb6
    have hall : ∀ w', SinceP w6 w' → (rowOf w' W.heap.size 0 38 = some (txC t) ∧ W.heap.size < w'.heap.size) := fun w' h => hP.out w' (q6.next h.out)
    have d5 := Box.mk (fun w' (h : SinceP w6 w') => c5.out w' (h0.out.below (q6.next h.out).out))
    have d6 := Box.mk (fun w' (h : SinceP w6 w') => c6.out w' (h0.out.below (q6.next h.out).out))
    have d7 := Box.mk (fun w' (h : SinceP w6 w') => c7.out w' (h0.out.below (q6.next h.out).out))
    have d8 := Box.mk (fun w' (h : SinceP w6 w') => c8.out w' (h0.out.below (q6.next h.out).out))
    have hfin := Box.mk (fun w' (h : SinceP w6 w') => Below.of (q6.next h.out).out hB0.size hB0)
    clear q1 q2 q3 q4 q5 c1 c2 c3 c4 c5 c6 c7 c8
    go_wp2_with fail
    refine hreg_begin (S := SinceP w6) (by kernel_rfl) (SinceP.refl _).drew (fun hHeld => ?_)
    simp only [List.length_cons, List.length_nil, Nat.zero_add, Nat.reduceAdd, Array.replicate]
    refine hreg_take (i := 0) rfl (by kernel_rfl) (by kernel_rfl) (by kernel_rfl) hreg_panic (by rfl) hHeld ?_
    apply Exists.intro
    refine ⟨fun w' hw' => ?_, ?_⟩
    · have hf := hall w' hw'
      go_simp
      try go_bits
      exact yieldsV_mk rfl
    simp only [Act.put, List.setIfInBounds_toArray, List.set_cons_zero, List.set_cons_succ]
    refine hreg_take (i := 2) rfl (by kernel_rfl) (by kernel_rfl) (by kernel_rfl) hreg_panic (by rfl) hHeld ?_
    apply Exists.intro
    refine ⟨fun w' hw' => ?_, ?_⟩
    · have hf := hall w' hw'
      go_simp
      try go_bits
      exact yieldsV_mk rfl
    simp only [Act.put, List.setIfInBounds_toArray, List.set_cons_zero, List.set_cons_succ]
    refine wpAnyH_ready (rs := [1]) (by kernel_rfl) (by simp) ?_
    refine hreg_event (o := _) rfl (by rfl) (fun K hK => ?_) ?_
    · go_simp
      first
        | (go_at_call 20; refine (d5.out _ hHeld).mono ?_; rintro e wn ⟨rfl, hb⟩)
        | (go_at_call 21; refine (d6.out _ hHeld).mono ?_; rintro e wn ⟨rfl, hb⟩)
        | (go_at_call 22; refine (d7.out _ hHeld).mono ?_; rintro e wn ⟨rfl, hb⟩)
        | (go_at_call 23; refine (d8.out _ hHeld).mono ?_; rintro e wn ⟨rfl, hb⟩)
        | skip
      refine hK.out _ _ ?_ (fun hHeld' => ?_)
      · first
          | exact hHeld.next hb
          | exact hHeld
          | exact hHeld.alloc _
          | exact hHeld.setCell (by simp <;> omega) _
          | exact (hHeld.alloc _).alloc _
      replace hHeld := hHeld'
      clear hHeld' hK K
      simp only [Act.put, List.setIfInBounds_toArray, List.set_cons_zero, List.set_cons_succ]
      refine wpAnyH_ready (rs := [3]) (by kernel_rfl) (by simp) ?_
      refine hreg_event (o := _) rfl (by rfl) (fun K hK => ?_) ?_
      · go_simp
        first
          | (go_at_call 20; refine (d5.out _ hHeld).mono ?_; rintro e wn ⟨rfl, hb⟩)
          | (go_at_call 21; refine (d6.out _ hHeld).mono ?_; rintro e wn ⟨rfl, hb⟩)
          | (go_at_call 22; refine (d7.out _ hHeld).mono ?_; rintro e wn ⟨rfl, hb⟩)
          | (go_at_call 23; refine (d8.out _ hHeld).mono ?_; rintro e wn ⟨rfl, hb⟩)
          | skip
        refine hK.out _ _ ?_ (fun hHeld' => ?_)
        · first
            | exact hHeld.next hb
            | exact hHeld
            | exact hHeld.alloc _
            | exact hHeld.setCell (by simp <;> omega) _
            | exact (hHeld.alloc _).alloc _
        replace hHeld := hHeld'
        clear hHeld' hK K
        simp only [Act.put, List.setIfInBounds_toArray, List.set_cons_zero, List.set_cons_succ]
        refine hreg_take (i := 4) rfl (by kernel_rfl) (by kernel_rfl) (by kernel_rfl) hreg_panic (by rfl) hHeld ?_
        apply Exists.intro
        refine ⟨fun w' hw' => ?_, ?_⟩
        · have hf := hall w' hw'
          go_simp
          try go_bits
          exact yieldsV_mk rfl
        simp only [Act.put, List.setIfInBounds_toArray, List.set_cons_zero, List.set_cons_succ]
        refine hreg_take (i := 5) rfl (by kernel_rfl) (by kernel_rfl) (by kernel_rfl) hreg_panic (by rfl) hHeld ?_
        apply Exists.intro
        refine ⟨fun w' hw' => ?_, ?_⟩
        · have hf := hall w' hw'
          go_simp
          try go_bits
          exact yieldsV_mk rfl
        simp only [Act.put, List.setIfInBounds_toArray, List.set_cons_zero, List.set_cons_succ]
        refine hreg_take (i := 6) rfl (by kernel_rfl) (by kernel_rfl) (by kernel_rfl) hreg_panic (by rfl) hHeld ?_
        apply Exists.intro
        refine ⟨fun w' hw' => ?_, ?_⟩
        · have hf := hall w' hw'
          go_simp
          try go_bits
          exact yieldsV_mk rfl
        simp only [Act.put, List.setIfInBounds_toArray, List.set_cons_zero, List.set_cons_succ]
        refine hreg_take (i := 7) rfl (by kernel_rfl) (by kernel_rfl) (by kernel_rfl) hreg_panic (by rfl) hHeld ?_
        apply Exists.intro
        refine ⟨fun w' hw' => ?_, ?_⟩
        · have hf := hall w' hw'
          go_simp
          try go_bits
          exact yieldsV_mk rfl
        simp only [Act.put, List.setIfInBounds_toArray, List.set_cons_zero, List.set_cons_succ]
        refine hreg_take (i := 9) rfl (by kernel_rfl) (by kernel_rfl) (by kernel_rfl) hreg_panic (by rfl) hHeld ?_
        apply Exists.intro
        refine ⟨fun w' hw' => ?_, ?_⟩
        · have hf := hall w' hw'
          go_simp
          try go_bits
          exact yieldsV_mk rfl
        simp only [Act.put, List.setIfInBounds_toArray, List.set_cons_zero, List.set_cons_succ]
        refine hreg_take (i := 10) rfl (by kernel_rfl) (by kernel_rfl) (by kernel_rfl) hreg_panic (by rfl) hHeld ?_
        apply Exists.intro
        refine ⟨fun w' hw' => ?_, ?_⟩
        · have hf := hall w' hw'
          go_simp
          try go_bits
          exact yieldsV_mk rfl
        simp only [Act.put, List.setIfInBounds_toArray, List.set_cons_zero, List.set_cons_succ]
        refine wpAnyH_ready (rs := [8]) (by kernel_rfl) (by simp) ?_
        refine hreg_event (o := _) rfl (by rfl) (fun K hK => ?_) ?_
        · go_simp
          first
            | (go_at_call 20; refine (d5.out _ hHeld).mono ?_; rintro e wn ⟨rfl, hb⟩)
            | (go_at_call 21; refine (d6.out _ hHeld).mono ?_; rintro e wn ⟨rfl, hb⟩)
            | (go_at_call 22; refine (d7.out _ hHeld).mono ?_; rintro e wn ⟨rfl, hb⟩)
            | (go_at_call 23; refine (d8.out _ hHeld).mono ?_; rintro e wn ⟨rfl, hb⟩)
            | skip
          refine hK.out _ _ ?_ (fun hHeld' => ?_)
          · first
              | exact hHeld.next hb
              | exact hHeld
              | exact hHeld.alloc _
              | exact hHeld.setCell (by simp <;> omega) _
              | exact (hHeld.alloc _).alloc _
          replace hHeld := hHeld'
          clear hHeld' hK K
          simp only [Act.put, List.setIfInBounds_toArray, List.set_cons_zero, List.set_cons_succ]
          refine wpAnyH_ready (rs := [11]) (by kernel_rfl) (by simp) ?_
          refine hreg_event (o := _) rfl (by rfl) (fun K hK => ?_) ?_
          · go_simp
            first
              | (go_at_call 20; refine (d5.out _ hHeld).mono ?_; rintro e wn ⟨rfl, hb⟩)
              | (go_at_call 21; refine (d6.out _ hHeld).mono ?_; rintro e wn ⟨rfl, hb⟩)
              | (go_at_call 22; refine (d7.out _ hHeld).mono ?_; rintro e wn ⟨rfl, hb⟩)
              | (go_at_call 23; refine (d8.out _ hHeld).mono ?_; rintro e wn ⟨rfl, hb⟩)
              | skip
            refine hK.out _ _ ?_ (fun hHeld' => ?_)
            · first
                | exact hHeld.next hb
                | exact hHeld
                | exact hHeld.alloc _
                | exact hHeld.setCell (by simp <;> omega) _
                | exact (hHeld.alloc _).alloc _
            replace hHeld := hHeld'
            clear hHeld' hK K
            simp only [Act.put, List.setIfInBounds_toArray, List.set_cons_zero, List.set_cons_succ]
            refine hreg_take (i := 12) rfl (by kernel_rfl) (by kernel_rfl) (by kernel_rfl) hreg_panic (by rfl) hHeld ?_
            apply Exists.intro
            refine ⟨fun w' hw' => ?_, ?_⟩
            · have hf := hall w' hw'
              go_simp
              try go_bits
              exact yieldsV_mk rfl
            simp only [Act.put, List.setIfInBounds_toArray, List.set_cons_zero, List.set_cons_succ]
            refine hreg_take (i := 13) rfl (by kernel_rfl) (by kernel_rfl) (by kernel_rfl) hreg_panic (by rfl) hHeld ?_
            apply Exists.intro
            refine ⟨fun w' hw' => ?_, ?_⟩
            · have hf := hall w' hw'
              go_simp
              try go_bits
              exact yieldsV_mk rfl
            simp only [Act.put, List.setIfInBounds_toArray, List.set_cons_zero, List.set_cons_succ]
            refine hreg_take (i := 14) rfl (by kernel_rfl) (by kernel_rfl) (by kernel_rfl) hreg_panic (by rfl) hHeld ?_
            apply Exists.intro
            refine ⟨fun w' hw' => ?_, ?_⟩
            · have hf := hall w' hw'
              go_simp
              try go_bits
              exact yieldsV_mk rfl
            simp only [Act.put, List.setIfInBounds_toArray, List.set_cons_zero, List.set_cons_succ]
            refine hreg_take (i := 15) rfl (by kernel_rfl) (by kernel_rfl) (by kernel_rfl) hreg_panic (by rfl) hHeld ?_
            apply Exists.intro
            refine ⟨fun w' hw' => ?_, ?_⟩
            · have hf := hall w' hw'
              go_simp
              try go_bits
              exact yieldsV_mk rfl
            simp only [Act.put, List.setIfInBounds_toArray, List.set_cons_zero, List.set_cons_succ]
            refine hreg_take (i := 16) rfl (by kernel_rfl) (by kernel_rfl) (by kernel_rfl) hreg_panic (by rfl) hHeld ?_
            apply Exists.intro
            refine ⟨fun w' hw' => ?_, ?_⟩
            · have hf := hall w' hw'
              go_simp
              try go_bits
              exact yieldsV_mk rfl
            simp only [Act.put, List.setIfInBounds_toArray, List.set_cons_zero, List.set_cons_succ]
            refine hreg_take (i := 17) rfl (by kernel_rfl) (by kernel_rfl) (by kernel_rfl) hreg_panic (by rfl) hHeld ?_
            apply Exists.intro
            refine ⟨fun w' hw' => ?_, ?_⟩
            · have hf := hall w' hw'
              go_simp
              try go_bits
              exact yieldsV_mk rfl
            simp only [Act.put, List.setIfInBounds_toArray, List.set_cons_zero, List.set_cons_succ]
            refine hreg_take (i := 18) rfl (by kernel_rfl) (by kernel_rfl) (by kernel_rfl) hreg_panic (by rfl) hHeld ?_
            apply Exists.intro
            refine ⟨fun w' hw' => ?_, ?_⟩
            · have hf := hall w' hw'
              go_simp
              try go_bits
              exact yieldsV_mk rfl
            simp only [Act.put, List.setIfInBounds_toArray, List.set_cons_zero, List.set_cons_succ]
            refine hreg_take (i := 19) rfl (by kernel_rfl) (by kernel_rfl) (by kernel_rfl) hreg_panic (by rfl) hHeld ?_
            apply Exists.intro
            refine ⟨fun w' hw' => ?_, ?_⟩
            · have hf := hall w' hw'
              go_simp
              try go_bits
              exact yieldsV_mk rfl
            simp only [Act.put, List.setIfInBounds_toArray, List.set_cons_zero, List.set_cons_succ]
            refine hreg_take (i := 20) rfl (by kernel_rfl) (by kernel_rfl) (by kernel_rfl) hreg_panic (by rfl) hHeld ?_
            apply Exists.intro
            refine ⟨fun w' hw' => ?_, ?_⟩
            · have hf := hall w' hw'
              go_simp
              try go_bits
              exact yieldsV_mk rfl
            simp only [Act.put, List.setIfInBounds_toArray, List.set_cons_zero, List.set_cons_succ]
            refine hreg_take (i := 21) rfl (by kernel_rfl) (by kernel_rfl) (by kernel_rfl) hreg_panic (by rfl) hHeld ?_
            apply Exists.intro
            refine ⟨fun w' hw' => ?_, ?_⟩
            · have hf := hall w' hw'
              go_simp
              try go_bits
              exact yieldsV_mk rfl
            simp only [Act.put, List.setIfInBounds_toArray, List.set_cons_zero, List.set_cons_succ]
            refine hreg_take (i := 22) rfl (by kernel_rfl) (by kernel_rfl) (by kernel_rfl) hreg_panic (by rfl) hHeld ?_
            apply Exists.intro
            refine ⟨fun w' hw' => ?_, ?_⟩
            · have hf := hall w' hw'
              go_simp
              try go_bits
              exact yieldsV_mk rfl
            simp only [Act.put, List.setIfInBounds_toArray, List.set_cons_zero, List.set_cons_succ]
            refine hreg_take (i := 23) rfl (by kernel_rfl) (by kernel_rfl) (by kernel_rfl) hreg_panic (by rfl) hHeld ?_
            apply Exists.intro
            refine ⟨fun w' hw' => ?_, ?_⟩
            · have hf := hall w' hw'
              go_simp
              try go_bits
              exact yieldsV_mk rfl
            simp only [Act.put, List.setIfInBounds_toArray, List.set_cons_zero, List.set_cons_succ]
            refine hreg_take (i := 24) rfl (by kernel_rfl) (by kernel_rfl) (by kernel_rfl) hreg_panic (by rfl) hHeld ?_
            apply Exists.intro
            refine ⟨fun w' hw' => ?_, ?_⟩
            · have hf := hall w' hw'
              go_simp
              try go_bits
              exact yieldsV_mk rfl
            simp only [Act.put, List.setIfInBounds_toArray, List.set_cons_zero, List.set_cons_succ]
            refine hreg_take (i := 25) rfl (by kernel_rfl) (by kernel_rfl) (by kernel_rfl) hreg_panic (by rfl) hHeld ?_
            apply Exists.intro
            refine ⟨fun w' hw' => ?_, ?_⟩
            · have hf := hall w' hw'
              go_simp
              try go_bits
              exact yieldsV_mk rfl
            simp only [Act.put, List.setIfInBounds_toArray, List.set_cons_zero, List.set_cons_succ]
            refine hreg_take (i := 26) rfl (by kernel_rfl) (by kernel_rfl) (by kernel_rfl) hreg_panic (by rfl) hHeld ?_
            apply Exists.intro
            refine ⟨fun w' hw' => ?_, ?_⟩
            · have hf := hall w' hw'
              go_simp
              try go_bits
              exact yieldsV_mk rfl
            simp only [Act.put, List.setIfInBounds_toArray, List.set_cons_zero, List.set_cons_succ]
            refine hreg_take (i := 27) rfl (by kernel_rfl) (by kernel_rfl) (by kernel_rfl) hreg_panic (by rfl) hHeld ?_
            apply Exists.intro
            refine ⟨fun w' hw' => ?_, ?_⟩
            · have hf := hall w' hw'
              go_simp
              try go_bits
              exact yieldsV_mk rfl
            simp only [Act.put, List.setIfInBounds_toArray, List.set_cons_zero, List.set_cons_succ]
            refine hreg_take (i := 28) rfl (by kernel_rfl) (by kernel_rfl) (by kernel_rfl) hreg_panic (by rfl) hHeld ?_
            apply Exists.intro
            refine ⟨fun w' hw' => ?_, ?_⟩
            · have hf := hall w' hw'
              go_simp
              try go_bits
              exact yieldsV_mk rfl
            simp only [Act.put, List.setIfInBounds_toArray, List.set_cons_zero, List.set_cons_succ]
            refine hreg_take (i := 29) rfl (by kernel_rfl) (by kernel_rfl) (by kernel_rfl) hreg_panic (by rfl) hHeld ?_
            apply Exists.intro
            refine ⟨fun w' hw' => ?_, ?_⟩
            · have hf := hall w' hw'
              go_simp
              try go_bits
              exact yieldsV_mk rfl
            simp only [Act.put, List.setIfInBounds_toArray, List.set_cons_zero, List.set_cons_succ]
            refine hreg_take (i := 30) rfl (by kernel_rfl) (by kernel_rfl) (by kernel_rfl) hreg_panic (by rfl) hHeld ?_
            apply Exists.intro
            refine ⟨fun w' hw' => ?_, ?_⟩
            · have hf := hall w' hw'
              go_simp
              try go_bits
              exact yieldsV_mk rfl
            simp only [Act.put, List.setIfInBounds_toArray, List.set_cons_zero, List.set_cons_succ]
            refine hreg_take (i := 31) rfl (by kernel_rfl) (by kernel_rfl) (by kernel_rfl) hreg_panic (by rfl) hHeld ?_
            apply Exists.intro
            refine ⟨fun w' hw' => ?_, ?_⟩
            · have hf := hall w' hw'
              go_simp
              try go_bits
              exact yieldsV_mk rfl
            simp only [Act.put, List.setIfInBounds_toArray, List.set_cons_zero, List.set_cons_succ]
            refine hreg_take (i := 32) rfl (by kernel_rfl) (by kernel_rfl) (by kernel_rfl) hreg_panic (by rfl) hHeld ?_
            apply Exists.intro
            refine ⟨fun w' hw' => ?_, ?_⟩
            · have hf := hall w' hw'
              go_simp
              try go_bits
              exact yieldsV_mk rfl
            simp only [Act.put, List.setIfInBounds_toArray, List.set_cons_zero, List.set_cons_succ]
            refine hreg_take (i := 33) rfl (by kernel_rfl) (by kernel_rfl) (by kernel_rfl) hreg_panic (by rfl) hHeld ?_
            apply Exists.intro
            refine ⟨fun w' hw' => ?_, ?_⟩
            · have hf := hall w' hw'
              go_simp
              try go_bits
              exact yieldsV_mk rfl
            simp only [Act.put, List.setIfInBounds_toArray, List.set_cons_zero, List.set_cons_succ]
            refine hreg_take (i := 34) rfl (by kernel_rfl) (by kernel_rfl) (by kernel_rfl) hreg_panic (by rfl) hHeld ?_
            apply Exists.intro
            refine ⟨fun w' hw' => ?_, ?_⟩
            · have hf := hall w' hw'
              go_simp
              try go_bits
              exact yieldsV_mk rfl
            simp only [Act.put, List.setIfInBounds_toArray, List.set_cons_zero, List.set_cons_succ]
            refine wpAnyH_done (by kernel_rfl) ?_ _
            refine NoPanic.normal ?_
            go_wp2
            go_ret
            exact gives_bool rfl (hfin.out _ hHeld)
          exact AllReadyH.nil
        exact AllReadyH.nil
      exact AllReadyH.nil
    exact AllReadyH.nil
  · have key : heavyB t = true ∨ (heavyB t = false ∧ (1200 : Int) < (len : Int)) := by
      cases hv : heavyB t
      · exact .inr ⟨rfl, by have : ¬ len ≤ 1200 := fun h => hgo ⟨hv, h⟩; omega⟩
      · exact .inl rfl
    clear hgo
    rcases key with hv | ⟨hv, hl⟩ <;> rw [hv] at hw14 <;> replace hv := Box.mk hv
    all_goals
      go_enter Try.func6, Try.ntmps6
      go_wp2_with fail
      refine (hw14.out _).mono ?_
      rintro e w1 ⟨rfl, hb1⟩
      have q1 := hP0.next hb1
      go_wp2_with fail
      refine (shown14 _).mono ?_
      rintro e w2 ⟨rfl, hb2⟩
      have hfin := Box.mk (Below.of (q1.next hb2).out hB0.size hB0)
      go_wp2
      go_ret
      exact gives_bool rfl hfin.out

end Go.Proofs.Ytahkiabpjfcfdaa
