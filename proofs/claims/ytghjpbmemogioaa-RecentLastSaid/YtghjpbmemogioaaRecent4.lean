/- Package recent: Has, Put. -/
import Derived.Test.YtghjpbmemogioaaRecent3
namespace Go.Proofs.Ytghjpbmemogioaa
set_option maxRecDepth 100000
open Go.RowKit
set_option linter.unusedVariables false
set_option linter.unusedSimpArgs false
attribute [local irreducible] Int.lt Int.le
attribute [local go_sem ↓] load_key store_key alloc_key build0_key eq_key load_it store_it alloc_it one_it make_it append_it build_it eq_it exec_clear
attribute [local go_sem] rowOf_drew rowOf_alloc_old rowOf_alloc_new canPut_drew canPut_alloc_old canPut_alloc_new setCells_alloc_new

/-- Is an item with that id, whose time is not over, among them? -/
@[irreducible] def hasB (l : List ItemV) (k : Key) (now : Int) : Bool := (l.filter (youngB now)).any fun x => x.id == k
theorem idxI_any (p : ItemV → Bool) (l : List ItemV) : decide (0 ≤ idxI p l) = l.any p := by
  rcases idxI_cases p l with ⟨h, e⟩ | ⟨k, hk, h, hp, _⟩
  · rw [h]
    have : l.any p = false := by
      rw [List.filter_eq_self] at e
      rw [List.any_eq_false]
      intro x hx
      have := e x hx
      simpa using this
    rw [this]; rfl
  · rw [h]
    have : l.any p = true := List.any_eq_true.2 ⟨l[k], List.getElem_mem hk, hp⟩
    rw [this]
    exact decide_eq_true (by omega)

set_option maxHeartbeats 1000000 in
theorem contf_any (a : Option Addr) (n c : Nat) (l : List ItemV) (g : Nat) (lb : Array Value) (p : ItemV → Bool) (eg : ∀ args w, (callFunc g args).run Try.prog w = .ok (.enter g args) w) (W : World) (h : IL W a n c l) (hn : n ≤ 100000) (hp : PredOn W.heap.size g lb p W) :
    Calls Try.prog 42 #[.slice a n c, .func (.func g) #[] lb] W (Gives (.bool (l.any p)) W) := by
  have hi := idxf_any a n c l g lb p eg W h hn hp
  have hA := idxI_any p l
  replace hi := Box.mk hi
  replace h := Box.mk h
  replace hp := Box.mk hp
  replace hA := Box.mk hA
  go_enter Try.func42, Try.ntmps42
  go_wp2_with fail
  refine hi.out.mono ?_
  rintro e w2 ⟨rfl, hb2⟩
  generalize idxI p l = z at *
  go_wp2
  go_ret
  exact gives_bool hA.out hb2

set_option maxHeartbeats 1000000 in
theorem has_any (a : Option Addr) (n c : Nat) (l : List ItemV) (k : Key) (now : Int) (W : World) (h : IL W a n c l) (hn : n ≤ 100000) : Calls Try.prog 29 #[.slice a n c, .agg (keyC k).toArray, .int .u64 now] W (Gives (.bool (hasB l k now)) W) := by
  have hB1 : Below W.heap.size W (W.alloc (.cells (keyC k).toArray 40)) := (Below.refl _ _).alloc (Nat.le_refl _) _
  have hr1 : rowOf (W.alloc (.cells (keyC k).toArray 40)) W.heap.size 0 32 = some (keyC k) := rowOf_alloc_new _ _ _ _ _ _ rfl (keyC_length k)
  have hs1 : (W.alloc (.cells (keyC k).toArray 40)).heap.size = W.heap.size + 1 := by simp
  have ho := old_any a n c l now _ (h.below hB1) hn
  have hln := h.1
  have hH : hasB l k now = (l.filter (youngB now)).any fun x => x.id == k := by unfold hasB; rfl
  replace hH := Box.mk hH
  replace ho := Box.mk ho
  replace h := Box.mk h
  replace hln := Box.mk hln
  go_enter Try.func29, Try.ntmps29
  go_wp2_with fail
  generalize W.alloc (.cells (keyC k).toArray 40) = w1 at *
  refine ho.out.mono ?_
  rintro e w2 ⟨a2, n2, c2, rfl, hown, hb2⟩
  have hn2 : n2 ≤ 100000 := by
    have := hown.sl'.1
    have h3 := List.length_filter_le (youngB now) l
    have h4 := hln.out
    omega
  have hc := contf_any a2 n2 c2 _ 43 #[.pointer (some ⟨W.heap.size, 0, none⟩)] (fun x => x.id == k) ent_has w2 hown.sl'.2 hn2 (fun w' hw x => hasc_any W.heap.size k w' (by rw [rowOf_congr ((hb2.trans (hw.mono hb2.size)).block _ (by omega))]; exact hr1) (by have := hw.size; have := hb2.size; omega) x)
  rw [← hH.out] at hc
  replace hc := Box.mk hc
  replace hown := Box.mk hown
  replace ho := Box.mk ho
  go_wp2_with fail
  refine hc.out.mono ?_
  rintro e w3 ⟨rfl, hb3⟩
  go_wp2
  go_ret
  exact gives_bool rfl (hB1.trans ((since_next hb2 hb3).mono (by omega)))

/-- What a list is with one more. -/
@[irreducible] def putA (l : List ItemV) (k : Key) (now : Int) : List ItemV := l.filter (fun x => !(x.id == k)) ++ [⟨k, now⟩]
@[irreducible] def putL (l : List ItemV) (k : Key) (now : Int) : List ItemV := (putA l k now).drop ((putA l k now).length - 5)

set_option maxHeartbeats 2000000 in
theorem put_any (a : Option Addr) (n c : Nat) (l : List ItemV) (k : Key) (now : Int) (W : World) (h : IL W a n c l) (hn : n ≤ 100000) : Calls Try.prog 27 #[.slice a n c, .agg (keyC k).toArray, .int .u64 now] W
    (fun e w' => ∃ a' n', e = .returned (.slice a' n' n') ∧ IL w' a' n' n' (putL l k now) ∧ Fresh W.heap.size a' ∧ Below W.heap.size W w') := by
  have hB1 : Below W.heap.size W (W.alloc (.cells (keyC k).toArray 40)) := (Below.refl _ _).alloc (Nat.le_refl _) _
  have hr1 : rowOf (W.alloc (.cells (keyC k).toArray 40)) W.heap.size 0 32 = some (keyC k) := rowOf_alloc_new _ _ _ _ _ _ rfl (keyC_length k)
  have hs1 : (W.alloc (.cells (keyC k).toArray 40)).heap.size = W.heap.size + 1 := by simp
  have hln := h.1
  have hp : ∀ w', Below (W.heap.size + 1) (W.alloc (.cells (keyC k).toArray 40)) w' → PredOn w'.heap.size 41 #[.pointer (some ⟨W.heap.size, 0, none⟩)] (fun x => !(x.id == k)) w' := fun w' hw w2 hw2 x =>
    putc_any W.heap.size k w2 (by rw [rowOf_congr ((hw.trans (hw2.mono (by have := hw.size; omega))).block _ (by omega))]; exact hr1) (by have := hw.size; have := hw2.size; omega) x
  have hk := fun w' (hw : Below (W.heap.size + 1) (W.alloc (.cells (keyC k).toArray 40)) w') => kept_any a n c l 41 #[.pointer (some ⟨W.heap.size, 0, none⟩)] (fun x => !(x.id == k)) ent_put w' (h.below (hB1.trans (hw.mono (by omega)))) hn (hp w' hw)
  have hfl := List.length_filter_le (fun x : ItemV => !(x.id == k)) l
  have hPA : putA l k now = l.filter (fun x => !(x.id == k)) ++ [⟨k, now⟩] := by unfold putA; rfl
  have hPL : putL l k now = (putA l k now).drop ((putA l k now).length - 5) := by unfold putL; rfl
  have hPn : (putA l k now).length = (l.filter (fun x => !(x.id == k))).length + 1 := by rw [hPA]; simp
  generalize l.filter (fun x => !(x.id == k)) = F at *
  clear hp
  replace hk := Box.mk hk
  replace h := Box.mk h
  replace hPA := Box.mk hPA
  replace hPL := Box.mk hPL
  have hF1 : F.length + 1 ≤ 2000000 := by omega
  replace hF1 := Box.mk hF1
  obtain ⟨f, hf⟩ : ∃ f, F.length = f := ⟨_, rfl⟩
  have hf1 : f ≤ 100000 := by omega
  replace hf := Box.mk hf
  replace hPn := Box.mk hPn
  replace hln := Box.mk hln
  replace hfl := Box.mk hfl
  go_enter Try.func27, Try.ntmps27
  go_wp2_with fail
  obtain ⟨w8, hw8⟩ : ∃ w8, w8 = W.alloc (.cells (keyC k).toArray 40) := ⟨_, rfl⟩
  rw [← hw8] at hB1 hr1 hs1 hk ⊢
  replace hw8 := Box.mk hw8
  have hall : ∀ w', SinceB (W.heap.size + 1) w8 w' → (rowOf w' W.heap.size 0 32 = some (keyC k) ∧ W.heap.size < w'.heap.size) := fun w' h => ⟨h.row (by omega) hr1, by have := h.size; omega⟩
  refine hreg_begin (S := SinceB (W.heap.size + 1) w8) (by kernel_rfl) (SinceB.refl (by omega)).drew (fun hHeld => ?_)
  simp only [List.length_cons, List.length_nil, Nat.zero_add, Nat.reduceAdd, Array.replicate]
  refine hreg_take (i := 0) rfl (by kernel_rfl) (by kernel_rfl) (by kernel_rfl) hreg_panic (by rfl) hHeld ?_
  apply Exists.intro
  refine ⟨fun w' hw' => ?_, ?_⟩
  · have hf := hall w' hw'
    go_simp
    try go_bits
    exact yieldsV_mk rfl
  simp only [Act.put, List.setIfInBounds_toArray, List.set_cons_zero, List.set_cons_succ]
  refine hreg_take (i := 1) rfl (by kernel_rfl) (by kernel_rfl) (by kernel_rfl) hreg_panic (by rfl) hHeld ?_
  apply Exists.intro
  refine ⟨fun w' hw' => ?_, ?_⟩
  · have hf := hall w' hw'
    go_simp
    try go_bits
    exact yieldsV_mk rfl
  simp only [Act.put, List.setIfInBounds_toArray, List.set_cons_zero, List.set_cons_succ]
  refine hreg_take (i := 3) rfl (by kernel_rfl) (by kernel_rfl) (by kernel_rfl) hreg_panic (by rfl) hHeld ?_
  apply Exists.intro
  refine ⟨fun w' hw' => ?_, ?_⟩
  · have hf := hall w' hw'
    go_simp
    try go_bits
    exact yieldsV_mk rfl
  simp only [Act.put, List.setIfInBounds_toArray, List.set_cons_zero, List.set_cons_succ]
  refine hreg_take (i := 4) rfl (by kernel_rfl) (by kernel_rfl) (by kernel_rfl) hreg_panic (by rfl) hHeld ?_
  apply Exists.intro
  refine ⟨fun w' hw' => ?_, ?_⟩
  · have hf := hall w' hw'
    go_simp
    try go_bits
    exact yieldsV_mk rfl
  simp only [Act.put, List.setIfInBounds_toArray, List.set_cons_zero, List.set_cons_succ]
  refine hreg_take (i := 5) rfl (by kernel_rfl) (by kernel_rfl) (by kernel_rfl) hreg_panic (by rfl) hHeld ?_
  apply Exists.intro
  refine ⟨fun w' hw' => ?_, ?_⟩
  · have hf := hall w' hw'
    go_simp
    try go_bits
    exact yieldsV_mk rfl
  simp only [Act.put, List.setIfInBounds_toArray, List.set_cons_zero, List.set_cons_succ]
  refine wpAnyH_ready (rs := [2, 6]) (by kernel_rfl) (by simp) ?_
  refine hreg_event (o := _) rfl (by rfl) (fun K hK => ?_) ?_
  · go_simp
    first
      | (go_at_call 40; refine (hk.out _ hHeld.out).mono ?_; rintro e wn ⟨xa, xn, xc, rfl, hown, hb⟩; replace hown := Box.mk (hown.mono (base' := W.heap.size + 1) (by have := hHeld.size; omega)))
      | skip
    refine hK.out _ _ ?_ (fun hHeld' => ?_)
    · first
        | exact hHeld.next hb
        | exact hHeld
        | exact hHeld.alloc _
        | exact hHeld.setCell (by simp <;> omega) _
        | exact (hHeld.alloc _).alloc _
    replace hHeld := hHeld'
    clear hHeld' hK K
    simp only [Act.put, List.setIfInBounds_toArray, List.set_cons_zero, List.set_cons_succ]
    refine wpAnyH_ready (rs := [6]) (by kernel_rfl) (by simp) ?_
    refine hreg_event (o := _) rfl (by rfl) (fun K hK => ?_) ?_
    · go_simp
      first
        | (go_at_call 40; refine (hk.out _ hHeld.out).mono ?_; rintro e wn ⟨xa, xn, xc, rfl, hown, hb⟩; replace hown := Box.mk (hown.mono (base' := W.heap.size + 1) (by have := hHeld.size; omega)))
        | skip
      refine hK.out _ _ ?_ (fun hHeld' => ?_)
      · first
          | exact hHeld.next hb
          | exact hHeld
          | exact hHeld.alloc _
          | exact hHeld.setCell (by simp <;> omega) _
          | exact (hHeld.alloc _).alloc _
      replace hHeld := hHeld'
      clear hHeld' hK K
      simp only [Act.put, List.setIfInBounds_toArray, List.set_cons_zero, List.set_cons_succ]
      refine wpAnyH_ready (rs := [7]) (by kernel_rfl) (by simp) ?_
      refine hreg_event (o := _) rfl (by rfl) (fun K hK => ?_) ?_
      · go_simp
        first
          | (obtain ⟨u5, n5, c5, w5, hap5, hown5, hb5, hs5, hn5, _⟩ := app_it (ty := 38) (hown.out.below ((Below.refl wn.heap.size wn).alloc (Nat.le_refl _) (.cells (itC ⟨k, now⟩).toArray 55))) (by have := hHeld.size; omega) (some ⟨wn.heap.size, 0, none⟩) 1 1 [(⟨k, now⟩ : ItemV)] (SL.one itC_length _ _ _) hF1.out; have hss : W.heap.size + 1 ≤ (wn.alloc (.cells (itC ⟨k, now⟩).toArray 55)).heap.size := (by have := hHeld.size; omega); replace hn5 : n5 = f + 1 := hn5.trans (congrArg (· + 1) hf.out); subst hn5; have hcap := hown5.sl'.2.2.1; have hcm := hown5.sl'.2.2.2.1; rw [hap5]; replace hown5 := Box.mk hown5; go_simp)
          | (go_at_call 40; refine (hk.out _ hHeld.out).mono ?_; rintro e wn ⟨xa, xn, xc, rfl, hown, hb⟩; replace hown := Box.mk (hown.mono (base' := W.heap.size + 1) (by have := hHeld.size; omega)))
          | skip
        refine hK.out _ _ ?_ (fun hHeld' => ?_)
        · first
            | exact hHeld.trans ⟨hb5, hss⟩
            | exact hHeld.next hb
            | exact hHeld
            | exact hHeld.alloc _
            | exact hHeld.setCell (by simp <;> omega) _
            | exact (hHeld.alloc _).alloc _
        replace hHeld := hHeld'
        clear hHeld' hK K
        simp only [Act.put, List.setIfInBounds_toArray, List.set_cons_zero, List.set_cons_succ]
        refine hreg_take (i := 8) rfl (by kernel_rfl) (by kernel_rfl) (by kernel_rfl) hreg_panic (by rfl) hHeld ?_
        apply Exists.intro
        refine ⟨fun w' hw' => ?_, ?_⟩
        · have hf := hall w' hw'
          go_simp
          try go_bits
          exact yieldsV_mk rfl
        simp only [Act.put, List.setIfInBounds_toArray, List.set_cons_zero, List.set_cons_succ]
        refine wpAnyH_done (by kernel_rfl) ?_ _
        refine NoPanic.normal ?_
        have hB5 := Box.mk hHeld.out
        clear hall hHeld
        by_cases h5 : f + 1 < 5
        · have hm : max ((f : Int) + 1 - 5) 0 = 0 := by omega
          go_wp2
          go_ret
          refine ⟨_, _, rfl, ?_, fun x hx => ?_, hB1.trans (hB5.out.mono (by omega))⟩
          · rw [hPL.out, hPn.out, hf.out, show f + 1 - 5 = 0 from by omega, List.drop_zero, hPA.out]
            exact hown5.out.sl'.2.recap _ (Nat.le_refl _) (by omega) (fun e => by have := hown5.out.sl'.2.2.2.2.1 e; omega)
          · have := hown5.out.block_le x hx; omega
        · obtain ⟨t, ht⟩ : ∃ t : Nat, f + 1 = t + 5 := ⟨f + 1 - 5, by omega⟩
          have ht1 : (f : Int) + 1 - 5 = t := by omega
          have hm : max (t : Int) 0 = t := by omega
          have hlt1 : (t : Int) ≤ (f : Int) + 1 := by omega
          have hlt2 : t ≤ f + 1 := by omega
          have hsub : f + 1 - t = 5 := by omega
          have hne : ¬ (f + 1 = t) := by omega
          replace ht := Box.mk ht
          go_wp2
          go_ret
          refine ⟨_, _, rfl, ?_, ?_, hB1.trans (hB5.out.mono (by omega))⟩
          · rw [hPL.out, hPn.out, hf.out, ht.out, Nat.add_sub_cancel, hPA.out]
            have := hown5.out.sl'.2.cut itC_length t (by omega) 5 (by omega) (by unfold maxLen; omega)
            rw [hsub] at this
            exact this
          · intro x hx
            obtain ⟨y, hy, rfl⟩ := Option.map_eq_some_iff.1 hx
            have := hown5.out.block_le y hy
            unfold Addr.add
            split <;> (show W.heap.size ≤ y.block; omega)
      exact AllReadyH.nil
    exact AllReadyH.nil
  refine hreg_event (o := _) rfl (by rfl) (fun K hK => ?_) ?_
  · go_simp
    first
      | (go_at_call 40; refine (hk.out _ hHeld.out).mono ?_; rintro e wn ⟨xa, xn, xc, rfl, hown, hb⟩; replace hown := Box.mk (hown.mono (base' := W.heap.size + 1) (by have := hHeld.size; omega)))
      | skip
    refine hK.out _ _ ?_ (fun hHeld' => ?_)
    · first
        | exact hHeld.next hb
        | exact hHeld
        | exact hHeld.alloc _
        | exact hHeld.setCell (by simp <;> omega) _
        | exact (hHeld.alloc _).alloc _
    replace hHeld := hHeld'
    clear hHeld' hK K
    simp only [Act.put, List.setIfInBounds_toArray, List.set_cons_zero, List.set_cons_succ]
    refine wpAnyH_ready (rs := [2]) (by kernel_rfl) (by simp) ?_
    refine hreg_event (o := _) rfl (by rfl) (fun K hK => ?_) ?_
    · go_simp
      first
        | (go_at_call 40; refine (hk.out _ hHeld.out).mono ?_; rintro e wn ⟨xa, xn, xc, rfl, hown, hb⟩; replace hown := Box.mk (hown.mono (base' := W.heap.size + 1) (by have := hHeld.size; omega)))
        | skip
      refine hK.out _ _ ?_ (fun hHeld' => ?_)
      · first
          | exact hHeld.next hb
          | exact hHeld
          | exact hHeld.alloc _
          | exact hHeld.setCell (by simp <;> omega) _
          | exact (hHeld.alloc _).alloc _
      replace hHeld := hHeld'
      clear hHeld' hK K
      simp only [Act.put, List.setIfInBounds_toArray, List.set_cons_zero, List.set_cons_succ]
      refine wpAnyH_ready (rs := [7]) (by kernel_rfl) (by simp) ?_
      refine hreg_event (o := _) rfl (by rfl) (fun K hK => ?_) ?_
      · go_simp
        first
          | (obtain ⟨u5, n5, c5, w5, hap5, hown5, hb5, hs5, hn5, _⟩ := app_it (ty := 38) hown.out (by have := hHeld.size; omega) (some ⟨W.heap.size + 1, 0, none⟩) 1 1 [(⟨k, now⟩ : ItemV)] (by have h1 := SL.one itC_length (⟨k, now⟩ : ItemV) 55 w8; rw [hs1] at h1; exact h1.drew.below hb) hF1.out; have hss : W.heap.size + 1 ≤ wn.heap.size := (by have := hHeld.size; omega); replace hn5 : n5 = f + 1 := hn5.trans (congrArg (· + 1) hf.out); subst hn5; have hcap := hown5.sl'.2.2.1; have hcm := hown5.sl'.2.2.2.1; rw [hap5]; replace hown5 := Box.mk hown5; go_simp)
          | (go_at_call 40; refine (hk.out _ hHeld.out).mono ?_; rintro e wn ⟨xa, xn, xc, rfl, hown, hb⟩; replace hown := Box.mk (hown.mono (base' := W.heap.size + 1) (by have := hHeld.size; omega)))
          | skip
        refine hK.out _ _ ?_ (fun hHeld' => ?_)
        · first
            | exact hHeld.trans ⟨hb5, hss⟩
            | exact hHeld.next hb
            | exact hHeld
            | exact hHeld.alloc _
            | exact hHeld.setCell (by simp <;> omega) _
            | exact (hHeld.alloc _).alloc _
        replace hHeld := hHeld'
        clear hHeld' hK K
        simp only [Act.put, List.setIfInBounds_toArray, List.set_cons_zero, List.set_cons_succ]
        refine hreg_take (i := 8) rfl (by kernel_rfl) (by kernel_rfl) (by kernel_rfl) hreg_panic (by rfl) hHeld ?_
        apply Exists.intro
        refine ⟨fun w' hw' => ?_, ?_⟩
        · have hf := hall w' hw'
          go_simp
          try go_bits
          exact yieldsV_mk rfl
        simp only [Act.put, List.setIfInBounds_toArray, List.set_cons_zero, List.set_cons_succ]
        refine wpAnyH_done (by kernel_rfl) ?_ _
        refine NoPanic.normal ?_
        have hB5 := Box.mk hHeld.out
        clear hall hHeld
        by_cases h5 : f + 1 < 5
        · have hm : max ((f : Int) + 1 - 5) 0 = 0 := by omega
          go_wp2
          go_ret
          refine ⟨_, _, rfl, ?_, fun x hx => ?_, hB1.trans (hB5.out.mono (by omega))⟩
          · rw [hPL.out, hPn.out, hf.out, show f + 1 - 5 = 0 from by omega, List.drop_zero, hPA.out]
            exact hown5.out.sl'.2.recap _ (Nat.le_refl _) (by omega) (fun e => by have := hown5.out.sl'.2.2.2.2.1 e; omega)
          · have := hown5.out.block_le x hx; omega
        · obtain ⟨t, ht⟩ : ∃ t : Nat, f + 1 = t + 5 := ⟨f + 1 - 5, by omega⟩
          have ht1 : (f : Int) + 1 - 5 = t := by omega
          have hm : max (t : Int) 0 = t := by omega
          have hlt1 : (t : Int) ≤ (f : Int) + 1 := by omega
          have hlt2 : t ≤ f + 1 := by omega
          have hsub : f + 1 - t = 5 := by omega
          have hne : ¬ (f + 1 = t) := by omega
          replace ht := Box.mk ht
          go_wp2
          go_ret
          refine ⟨_, _, rfl, ?_, ?_, hB1.trans (hB5.out.mono (by omega))⟩
          · rw [hPL.out, hPn.out, hf.out, ht.out, Nat.add_sub_cancel, hPA.out]
            have := hown5.out.sl'.2.cut itC_length t (by omega) 5 (by omega) (by unfold maxLen; omega)
            rw [hsub] at this
            exact this
          · intro x hx
            obtain ⟨y, hy, rfl⟩ := Option.map_eq_some_iff.1 hx
            have := hown5.out.block_le y hy
            unfold Addr.add
            split <;> (show W.heap.size ≤ y.block; omega)
      exact AllReadyH.nil
    exact AllReadyH.nil
  exact AllReadyH.nil

end Go.Proofs.Ytghjpbmemogioaa
