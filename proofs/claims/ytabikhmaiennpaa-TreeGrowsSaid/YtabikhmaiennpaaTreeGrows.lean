/- TreeGrows: notes that are put one by one make the tree of all of them, wherever it is cut. -/
import Derived.Test.YtabikhmaiennpaaTreeG
namespace Go.Proofs.Ytabikhmaiennpaa
open Go.RowKit
set_option linter.unusedVariables false
set_option linter.unusedSimpArgs false
set_option maxRecDepth 100000
attribute [local irreducible] Int.lt Int.le
attribute [local go_sem ↓] load_key store_key alloc_key build0_key eq_key load_a33 store_a33 alloc_a33 load_tree store_tree alloc_tree build0_tree build1_key two_key eq_tree slice_hi slice_lo
attribute [local go_sem] rowOf_drew canPut_drew canPut_alloc_old canPut_alloc_new setCells_alloc_new treeC_g0
theorem putsT_nil : putsT zeroTree [] = zeroTree := rfl
set_option maxHeartbeats 4000000 in
theorem treeGrows_walk (a : Option Addr) (cap : Nat) (l : List Key) (k : Nat) (hk : k ≤ 255) (W : World) (h : KL W a cap l) : Calls Try.prog 4 #[.slice a l.length cap, .int .u8 k] W (Gives (.bool true) W) := by
  have hcap := h.2.1
  have hmax : (cap : Int) ≤ 9223372036854775807 := by have := h.2.2.1; unfold maxLen at this; omega
  by_cases h60 : (60 : Int) < l.length
  · replace h := Box.mk h
    go_enter Try.func4, Try.ntmps4
    go_wp2_with fail
    refine (shown07_any W).mono ?_
    rintro e w1 ⟨rfl, b1⟩
    go_wp2
    go_ret
    exact gives_bool rfl b1
  obtain ⟨i, hi, hi2⟩ : ∃ i : Nat, (k : Int) % ((l.length : Int) + 1) = (i : Int) ∧ (k : Int).tmod ((l.length : Int) + 1) = (i : Int) := ⟨k % (l.length + 1), by rw [Int.natCast_emod, Int.natCast_add]; rfl, by rw [Int.tmod_eq_emod_of_nonneg (by omega), Int.natCast_emod, Int.natCast_add]; rfl⟩
  have hil : i ≤ l.length := by have := Int.emod_lt_of_pos (k : Int) (show (0 : Int) < (l.length : Int) + 1 by omega); omega
  obtain ⟨s1, L1⟩ := h.hi i hil
  obtain ⟨ya, yc, s2, L2⟩ := h.lo i hil
  have n1 : (l.take i).length ≤ 60 := by rw [List.length_take]; omega
  have n2 : (l.drop i).length ≤ 60 := by rw [List.length_drop]; omega
  have c1 := fun w (hw : KL w a cap (l.take i)) => of_any a cap (l.take i) w hw (by omega)
  have c2 := fun w (hw : KL w ya yc (l.drop i)) => all_any (putsT zeroTree (l.take i)) ya yc (l.drop i) w hw (by omega) (by rw [putsT_count]; show 0 + _ + _ ≤ _; omega)
  have c3 := fun w (hw : KL w a cap l) => of_any a cap l w hw (by omega)
  have c0 := fun w => of_any none 0 [] w (SL.nil _ _ w) (by decide)
  rw [putsT_nil] at c0
  have hTc := putsT_count l zeroTree
  have hhalf := putsT_halves zeroTree l i
  rw [hhalf] at c2
  obtain ⟨T, hT⟩ : ∃ t, putsT zeroTree l = t := ⟨_, rfl⟩
  rw [hT] at c2 c3 hTc
  obtain ⟨t1, ht1⟩ : ∃ t, putsT zeroTree (l.take i) = t := ⟨_, rfl⟩
  rw [ht1] at c1 c2
  generalize l.take i = l1 at *
  generalize l.drop i = l2 at *
  replace hTc : (T.count : Int) = l.length := by rw [hTc]; show ((0 + l.length : Nat) : Int) = _; omega
  replace hhalf := Box.mk hhalf
  replace hT := Box.mk hT
  replace ht1 := Box.mk ht1
  replace c0 := Box.mk c0
  replace c1 := Box.mk c1
  replace c2 := Box.mk c2
  replace c3 := Box.mk c3
  replace h := Box.mk h
  replace L1 := Box.mk L1
  replace L2 := Box.mk L2
  replace n1 := Box.mk n1
  replace n2 := Box.mk n2
  replace hTc := Box.mk hTc
  go_enter Try.func4, Try.ntmps4
  go_wp2_with fail
  refine (shown07_any W).mono ?_
  rintro e w1 ⟨rfl, b1⟩
  have L1w := Box.mk (L1.out.below b1)
  have L2w := Box.mk (L2.out.below b1)
  replace b1 := Box.mk b1
  go_wp2_with fail
  have hall : ∀ w', SinceP w1 w' → True := fun _ _ => trivial
  refine hreg_begin (S := SinceP w1) (by kernel_rfl) (SinceP.refl _).drew (fun hHeld => ?_)
  simp only [List.length_cons, List.length_nil, Nat.zero_add, Nat.reduceAdd, Array.replicate]
  refine hreg_take (i := 0) rfl (by kernel_rfl) (by kernel_rfl) (by kernel_rfl) hreg_panic (by rfl) hHeld ?_
  apply Exists.intro
  refine ⟨fun w' hw' => ?_, ?_⟩
  · have hf := hall w' hw'
    go_simp
    try go_bits
    exact yieldsV_mk rfl
  simp only [Act.put, List.setIfInBounds_toArray, List.set_cons_zero, List.set_cons_succ]
  refine hreg_take (i := 1) rfl (by kernel_rfl) (by kernel_rfl) (by kernel_rfl) hreg_panic (by rfl) hHeld ?_
  apply Exists.intro
  refine ⟨fun w' hw' => ?_, ?_⟩
  · have hf := hall w' hw'
    go_simp
    try go_bits
    exact yieldsV_mk rfl
  simp only [Act.put, List.setIfInBounds_toArray, List.set_cons_zero, List.set_cons_succ]
  refine hreg_take (i := 2) rfl (by kernel_rfl) (by kernel_rfl) (by kernel_rfl) hreg_panic (by rfl) hHeld ?_
  apply Exists.intro
  refine ⟨fun w' hw' => ?_, ?_⟩
  · have hf := hall w' hw'
    go_simp
    try go_bits
    exact yieldsV_mk rfl
  simp only [Act.put, List.setIfInBounds_toArray, List.set_cons_zero, List.set_cons_succ]
  refine hreg_take (i := 4) rfl (by kernel_rfl) (by kernel_rfl) (by kernel_rfl) hreg_panic (by rfl) hHeld ?_
  apply Exists.intro
  refine ⟨fun w' hw' => ?_, ?_⟩
  · have hf := hall w' hw'
    go_simp
    try go_bits
    exact yieldsV_mk rfl
  simp only [Act.put, List.setIfInBounds_toArray, List.set_cons_zero, List.set_cons_succ]
  refine hreg_take (i := 5) rfl (by kernel_rfl) (by kernel_rfl) (by kernel_rfl) hreg_panic (by rfl) hHeld ?_
  apply Exists.intro
  refine ⟨fun w' hw' => ?_, ?_⟩
  · have hf := hall w' hw'
    go_simp
    try go_bits
    exact yieldsV_mk rfl
  simp only [Act.put, List.setIfInBounds_toArray, List.set_cons_zero, List.set_cons_succ]
  refine hreg_take (i := 6) rfl (by kernel_rfl) (by kernel_rfl) (by kernel_rfl) hreg_panic (by rfl) hHeld ?_
  apply Exists.intro
  refine ⟨fun w' hw' => ?_, ?_⟩
  · have hf := hall w' hw'
    go_simp
    try go_bits
    exact yieldsV_mk rfl
  simp only [Act.put, List.setIfInBounds_toArray, List.set_cons_zero, List.set_cons_succ]
  refine wpAnyH_ready (rs := [3, 11]) (by kernel_rfl) (by simp) ?_
  refine hreg_event (o := _) rfl (by rfl) (fun K hK => ?_) ?_
  · go_simp
    first
      | (go_at_call 11; refine (c1.out _ (L1w.out.below hHeld.out)).mono ?_; rintro e wb ⟨rfl, hb⟩)
      | skip
    refine hK.out _ _ ?_ (fun hHeld' => ?_)
    · first
        | exact ⟨below_setCells (by have := htb.out; omega) _ _ _ _ hHeld.out⟩
        | exact hHeld.next hb
        | exact hHeld
        | exact hHeld.alloc _
        | exact hHeld.setCell (by simp <;> omega) _
        | exact (hHeld.alloc _).alloc _
    replace hHeld := hHeld'
    clear hHeld' hK K
    simp only [Act.put, List.setIfInBounds_toArray, List.set_cons_zero, List.set_cons_succ]
    refine wpAnyH_ready (rs := [7, 11]) (by kernel_rfl) (by simp) ?_
    refine hreg_event (o := _) rfl (by rfl) (fun K hK => ?_) ?_
    · go_simp
      first
        | (go_at_call 9; refine (c2.out _ (L2w.out.below hHeld.out)).mono ?_; rintro e wc ⟨rfl, hb⟩; unfold valT)
        | skip
      refine hK.out _ _ ?_ (fun hHeld' => ?_)
      · first
          | exact ⟨below_setCells (by have := htb.out; omega) _ _ _ _ hHeld.out⟩
          | exact hHeld.next hb
          | exact hHeld
          | exact hHeld.alloc _
          | exact hHeld.setCell (by simp <;> omega) _
          | exact (hHeld.alloc _).alloc _
      replace hHeld := hHeld'
      clear hHeld' hK K
      simp only [Act.put, List.setIfInBounds_toArray, List.set_cons_zero, List.set_cons_succ]
      refine hreg_take (i := 8) rfl (by kernel_rfl) (by kernel_rfl) (by kernel_rfl) hreg_panic (by rfl) hHeld ?_
      apply Exists.intro
      refine ⟨fun w' hw' => ?_, ?_⟩
      · have hf := hall w' hw'
        go_simp
        try go_bits
        exact yieldsV_mk rfl
      simp only [Act.put, List.setIfInBounds_toArray, List.set_cons_zero, List.set_cons_succ]
      refine hreg_take (i := 9) rfl (by kernel_rfl) (by kernel_rfl) (by kernel_rfl) hreg_panic (by rfl) hHeld ?_
      apply Exists.intro
      refine ⟨fun w' hw' => ?_, ?_⟩
      · have hf := hall w' hw'
        go_simp
        try go_bits
        exact yieldsV_mk rfl
      simp only [Act.put, List.setIfInBounds_toArray, List.set_cons_zero, List.set_cons_succ]
      refine hreg_take (i := 10) rfl (by kernel_rfl) (by kernel_rfl) (by kernel_rfl) hreg_panic (by rfl) hHeld ?_
      apply Exists.intro
      refine ⟨fun w' hw' => ?_, ?_⟩
      · have hf := hall w' hw'
        go_simp
        try go_bits
        exact yieldsV_mk rfl
      simp only [Act.put, List.setIfInBounds_toArray, List.set_cons_zero, List.set_cons_succ]
      refine wpAnyH_ready (rs := [11]) (by kernel_rfl) (by simp) ?_
      refine hreg_event (o := _) rfl (by rfl) (fun K hK => ?_) ?_
      · go_simp
        first
          | (obtain ⟨wz, hwz⟩ : ∃ wn, wn = wc.alloc (.cells (treeC zeroTree).toArray 28) := ⟨_, rfl⟩; have hA : TB wz wc.heap.size zeroTree := by { rw [hwz]; exact heap_alloc_new wc _ }; have hb : Below wc.heap.size wc wz := by { rw [hwz]; exact (Below.refl _ _).alloc (Nat.le_refl _) _ }; rw [← hwz]; clear hwz; obtain ⟨tb, htb⟩ : ∃ n, wc.heap.size = n := ⟨_, rfl⟩; rw [htb] at hA ⊢; replace hA := Box.mk hA; replace htb := Box.mk (show w1.heap.size ≤ tb by { have := hHeld.out.size; omega }); have hcp := hA.out.can 0 1025 (by omega); have hlt := hA.out.lt)
          | skip
        refine hK.out _ _ ?_ (fun hHeld' => ?_)
        · first
            | exact ⟨below_setCells (by have := htb.out; omega) _ _ _ _ hHeld.out⟩
            | exact hHeld.next hb
            | exact hHeld
            | exact hHeld.alloc _
            | exact hHeld.setCell (by simp <;> omega) _
            | exact (hHeld.alloc _).alloc _
        replace hHeld := hHeld'
        clear hHeld' hK K
        simp only [Act.put, List.setIfInBounds_toArray, List.set_cons_zero, List.set_cons_succ]
        refine wpAnyH_ready (rs := [12]) (by kernel_rfl) (by simp) ?_
        refine hreg_event (o := _) rfl (by rfl) (fun K hK => ?_) ?_
        · go_simp
          first
            | skip
          refine hK.out _ _ ?_ (fun hHeld' => ?_)
          · first
              | exact ⟨below_setCells (by have := htb.out; omega) _ _ _ _ hHeld.out⟩
              | exact hHeld.next hb
              | exact hHeld
              | exact hHeld.alloc _
              | exact hHeld.setCell (by simp <;> omega) _
              | exact (hHeld.alloc _).alloc _
          replace hHeld := hHeld'
          clear hHeld' hK K
          simp only [Act.put, List.setIfInBounds_toArray, List.set_cons_zero, List.set_cons_succ]
          refine hreg_take (i := 13) rfl (by kernel_rfl) (by kernel_rfl) (by kernel_rfl) hreg_panic (by rfl) hHeld ?_
          apply Exists.intro
          refine ⟨fun w' hw' => ?_, ?_⟩
          · have hf := hall w' hw'
            go_simp
            try go_bits
            exact yieldsV_mk rfl
          simp only [Act.put, List.setIfInBounds_toArray, List.set_cons_zero, List.set_cons_succ]
          refine wpAnyH_done (by kernel_rfl) ?_ _
          refine NoPanic.normal ?_
          have hT1 := Box.mk (hA.out.putAll T)
          clear hA hcp hlt
          generalize wz.setCells tb 0 (treeC T) = w3 at *
          have B3 := Box.mk (b1.out.trans (hHeld.out.mono b1.out.size))
          replace hHeld := Box.mk hHeld
          go_wp2_with fail
          refine (c0.out w3).mono ?_
          rintro e w4 ⟨rfl, b4⟩
          have b5 := b4.alloc b4.size (.cells (treeC zeroTree).toArray 28)
          have hU5 : TB (w4.alloc (.cells (treeC zeroTree).toArray 28)) w4.heap.size zeroTree := heap_alloc_new w4 _
          have hT5 := hT1.out.below b5
          have B5 := B3.out.trans (b5.mono B3.out.size)
          have g1 := hT1.out.lt
          have g2 := b4.size
          have g3 := b1.out.size
          have g4 := htb.out
          obtain ⟨ub, hub⟩ : ∃ n, w4.heap.size = n := ⟨_, rfl⟩
          rw [hub] at hU5
          have hlt1 : tb < ub := by omega
          have hlt2 : W.heap.size ≤ tb := by omega
          clear g1 g2 g3 g4
          replace hlt1 := Box.mk hlt1
          replace hlt2 := Box.mk hlt2
          replace b4 := Box.mk b4
          replace b5 := Box.mk b5
          replace hU5 := Box.mk hU5
          replace hT5 := Box.mk hT5
          replace B5 := Box.mk B5
          go_wp2_with fail
          generalize w4.alloc (.cells (treeC zeroTree).toArray 28) = w5 at *
          replace hub := Box.mk hub
          go_loopw [9] (fun i wr => Below W.heap.size W wr ∧ ∃ j : Nat, j ≤ l.length ∧ i = .int .i64 j ∧ TB wr tb T ∧ TB wr ub (putsT zeroTree (l.take j))) (fun i _ => l.length - (intOf i).toNat)
          case atStart => exact ⟨B5.out, 0, Nat.zero_le _, rfl, hT5.out, hU5.out⟩
          case round =>
            obtain ⟨hb0, j, hj, rfl, hTw, hUw⟩ := hrel
            clear hall
            by_cases hlt : j < l.length
            · have hlt' : (j : Int) < l.length := by omega
              obtain ⟨x, hx⟩ : ∃ x, l[j]? = some x := ⟨_, List.getElem?_eq_getElem hlt⟩
              obtain ⟨bk, o, hae, hbk, hr⟩ := h.out.at hx
              have R1 : rowOf wr bk (o + j * 32) 32 = some (keyC x) := by rw [rowOf_congr (hb0.block bk hbk)]; exact hr
              have hbkw : bk < wr.heap.size := Nat.lt_of_lt_of_le hbk hb0.size
              have hnext : putsT zeroTree (l.take (j + 1)) = putT (putsT zeroTree (l.take j)) x := by rw [List.take_add_one, hx]; exact putsT_snoc _ _ _
              have hcnt : (putsT zeroTree (l.take j)).count = j := by rw [putsT_count, List.length_take]; show 0 + _ = _; omega
              have c4 := fun w => append_any (putsT zeroTree (l.take j)) x w (by rw [hcnt]; omega)
              have hcn2 := putT_count (putsT zeroTree (l.take j)) x
              rw [hcnt] at hcn2
              rw [← hnext] at c4 hcn2
              obtain ⟨u2, hu2⟩ : ∃ t, putsT zeroTree (l.take (j + 1)) = t := ⟨_, rfl⟩
              rw [hu2] at c4 hcn2 hnext
              replace hu2 := Box.mk hu2
              generalize putsT zeroTree (l.take j) = u at *
              replace hnext := Box.mk hnext
              replace hcnt := Box.mk hcnt
              replace hcn2 := Box.mk hcn2
              have rU := hUw.row
              have lU := hUw.lt
              subst hae
              have hall : ∀ w', SinceP wr w' → (rowOf w' ub 0 1025 = some (treeC u) ∧ ub < w'.heap.size ∧ rowOf w' bk (o + j * 32) 32 = some (keyC x) ∧ bk < w'.heap.size) := fun w' hw => by
                have hzz := hw.out.size
                exact ⟨(rowOf_congr (hw.out.block ub lU) _ _).trans rU, by omega, (rowOf_congr (hw.out.block bk hbkw) _ _).trans R1, by omega⟩
              clear rU lU R1 hbkw
              have hj32 : (j : Int) % 4294967296 = j := by omega
              have hj33 : ((j : Int) + 1) % 4294967296 = j + 1 := by omega
              replace h := Box.mk h.out
              replace hx := Box.mk hx
              replace hr := Box.mk hr
              replace hb0 := Box.mk hb0
              replace hTw := Box.mk hTw
              replace hUw := Box.mk hUw
              replace c4 := Box.mk c4
              replace hbk := Box.mk hbk
              go_wp2_with fail
              refine hreg_begin (S := SinceP wr) (by kernel_rfl) (SinceP.refl _).drew (fun hHeld => ?_)
              simp only [List.length_cons, List.length_nil, Nat.zero_add, Nat.reduceAdd, Array.replicate]
              refine hreg_take (i := 0) rfl (by kernel_rfl) (by kernel_rfl) (by kernel_rfl) hreg_panic (by rfl) hHeld ?_
              apply Exists.intro
              refine ⟨fun w' hw' => ?_, ?_⟩
              · have hf := hall w' hw'
                go_simp
                try go_bits
                exact yieldsV_mk rfl
              simp only [Act.put, List.setIfInBounds_toArray, List.set_cons_zero, List.set_cons_succ]
              refine hreg_take (i := 1) rfl (by kernel_rfl) (by kernel_rfl) (by kernel_rfl) hreg_panic (by rfl) hHeld ?_
              apply Exists.intro
              refine ⟨fun w' hw' => ?_, ?_⟩
              · have hf := hall w' hw'
                go_simp
                try go_bits
                exact yieldsV_mk rfl
              simp only [Act.put, List.setIfInBounds_toArray, List.set_cons_zero, List.set_cons_succ]
              refine hreg_take (i := 2) rfl (by kernel_rfl) (by kernel_rfl) (by kernel_rfl) hreg_panic (by rfl) hHeld ?_
              apply Exists.intro
              refine ⟨fun w' hw' => ?_, ?_⟩
              · have hf := hall w' hw'
                go_simp
                try go_bits
                exact yieldsV_mk rfl
              simp only [Act.put, List.setIfInBounds_toArray, List.set_cons_zero, List.set_cons_succ]
              refine hreg_take (i := 3) rfl (by kernel_rfl) (by kernel_rfl) (by kernel_rfl) hreg_panic (by rfl) hHeld ?_
              apply Exists.intro
              refine ⟨fun w' hw' => ?_, ?_⟩
              · have hf := hall w' hw'
                go_simp
                try go_bits
                exact yieldsV_mk rfl
              simp only [Act.put, List.setIfInBounds_toArray, List.set_cons_zero, List.set_cons_succ]
              refine hreg_take (i := 4) rfl (by kernel_rfl) (by kernel_rfl) (by kernel_rfl) hreg_panic (by rfl) hHeld ?_
              apply Exists.intro
              refine ⟨fun w' hw' => ?_, ?_⟩
              · have hf := hall w' hw'
                go_simp
                try go_bits
                exact yieldsV_mk rfl
              simp only [Act.put, List.setIfInBounds_toArray, List.set_cons_zero, List.set_cons_succ]
              refine wpAnyH_ready (rs := [5, 9]) (by kernel_rfl) (by simp) ?_
              refine hreg_event (o := _) rfl (by rfl) (fun K hK => ?_) ?_
              · go_simp
                first
                  | (go_at_call 8; refine (c4.out _).mono ?_; rintro e wc ⟨rfl, hb⟩; unfold valT)
                  | skip
                refine hK.out _ _ ?_ (fun hHeld' => ?_)
                · first
                    | exact ⟨below_setCells (by have := hvb.out; omega) _ _ _ _ hHeld.out⟩
                    | exact hHeld.next hb
                    | exact hHeld
                    | exact hHeld.alloc _
                    | exact hHeld.setCell (by simp <;> omega) _
                    | exact (hHeld.alloc _).alloc _
                replace hHeld := hHeld'
                clear hHeld' hK K
                simp only [Act.put, List.setIfInBounds_toArray, List.set_cons_zero, List.set_cons_succ]
                refine hreg_take (i := 6) rfl (by kernel_rfl) (by kernel_rfl) (by kernel_rfl) hreg_panic (by rfl) hHeld ?_
                apply Exists.intro
                refine ⟨fun w' hw' => ?_, ?_⟩
                · have hf := hall w' hw'
                  go_simp
                  try go_bits
                  exact yieldsV_mk rfl
                simp only [Act.put, List.setIfInBounds_toArray, List.set_cons_zero, List.set_cons_succ]
                refine hreg_take (i := 7) rfl (by kernel_rfl) (by kernel_rfl) (by kernel_rfl) hreg_panic (by rfl) hHeld ?_
                apply Exists.intro
                refine ⟨fun w' hw' => ?_, ?_⟩
                · have hf := hall w' hw'
                  go_simp
                  try go_bits
                  exact yieldsV_mk rfl
                simp only [Act.put, List.setIfInBounds_toArray, List.set_cons_zero, List.set_cons_succ]
                refine hreg_take (i := 8) rfl (by kernel_rfl) (by kernel_rfl) (by kernel_rfl) hreg_panic (by rfl) hHeld ?_
                apply Exists.intro
                refine ⟨fun w' hw' => ?_, ?_⟩
                · have hf := hall w' hw'
                  go_simp
                  try go_bits
                  exact yieldsV_mk rfl
                simp only [Act.put, List.setIfInBounds_toArray, List.set_cons_zero, List.set_cons_succ]
                refine wpAnyH_ready (rs := [9]) (by kernel_rfl) (by simp) ?_
                refine hreg_event (o := _) rfl (by rfl) (fun K hK => ?_) ?_
                · go_simp
                  first
                    | (obtain ⟨wz, hwz⟩ : ∃ wn, wn = wc.alloc (.cells (treeC zeroTree).toArray 28) := ⟨_, rfl⟩; have hA : TB wz wc.heap.size zeroTree := by { rw [hwz]; exact heap_alloc_new wc _ }; have hb : Below wc.heap.size wc wz := by { rw [hwz]; exact (Below.refl _ _).alloc (Nat.le_refl _) _ }; rw [← hwz]; clear hwz; obtain ⟨vb, hvb⟩ : ∃ n, wc.heap.size = n := ⟨_, rfl⟩; rw [hvb] at hA ⊢; replace hA := Box.mk hA; replace hvb := Box.mk (show wr.heap.size ≤ vb by { have := hHeld.out.size; omega }); have hcp := hA.out.can 0 1025 (by omega); have hlt := hA.out.lt)
                    | skip
                  refine hK.out _ _ ?_ (fun hHeld' => ?_)
                  · first
                      | exact ⟨below_setCells (by have := hvb.out; omega) _ _ _ _ hHeld.out⟩
                      | exact hHeld.next hb
                      | exact hHeld
                      | exact hHeld.alloc _
                      | exact hHeld.setCell (by simp <;> omega) _
                      | exact (hHeld.alloc _).alloc _
                  replace hHeld := hHeld'
                  clear hHeld' hK K
                  simp only [Act.put, List.setIfInBounds_toArray, List.set_cons_zero, List.set_cons_succ]
                  refine wpAnyH_ready (rs := [10]) (by kernel_rfl) (by simp) ?_
                  refine hreg_event (o := _) rfl (by rfl) (fun K hK => ?_) ?_
                  · go_simp
                    first
                      | skip
                    refine hK.out _ _ ?_ (fun hHeld' => ?_)
                    · first
                        | exact ⟨below_setCells (by have := hvb.out; omega) _ _ _ _ hHeld.out⟩
                        | exact hHeld.next hb
                        | exact hHeld
                        | exact hHeld.alloc _
                        | exact hHeld.setCell (by simp <;> omega) _
                        | exact (hHeld.alloc _).alloc _
                    replace hHeld := hHeld'
                    clear hHeld' hK K
                    simp only [Act.put, List.setIfInBounds_toArray, List.set_cons_zero, List.set_cons_succ]
                    refine hreg_take (i := 11) rfl (by kernel_rfl) (by kernel_rfl) (by kernel_rfl) hreg_panic (by rfl) hHeld ?_
                    apply Exists.intro
                    refine ⟨fun w' hw' => ?_, ?_⟩
                    · have hf := hall w' hw'
                      go_simp
                      try go_bits
                      exact yieldsV_mk rfl
                    simp only [Act.put, List.setIfInBounds_toArray, List.set_cons_zero, List.set_cons_succ]
                    refine wpAnyH_done (by kernel_rfl) ?_ _
                    refine NoPanic.normal ?_
                    have hV1 := Box.mk (hA.out.putAll u2)
                    clear hA hcp hlt
                    generalize wz.setCells vb 0 (treeC u2) = wv at *
                    clear hall
                    have Bv := Box.mk (hb0.out.trans (hHeld.out.mono hb0.out.size))
                    have hT9 := hTw.out.below hHeld.out
                    have hU9 := hUw.out.below hHeld.out
                    have g1 := hUw.out.lt
                    obtain ⟨e1, e2⟩ := hV1.out.count
                    rw [hcn2.out, Int.natCast_add, Int.natCast_one] at e1
                    have e3 := hV1.out.row
                    have e4 := hV1.out.lt
                    have e5 := hU9.lt
                    have e6 := hU9.can 0 1025 (by omega)
                    have hU10 := Box.mk (hU9.putAll u2)
                    have hT10 : Box (TB (wv.setCells ub 0 (treeC u2)) tb T) := Box.mk ((setCells_ne (by have := hlt1.out; omega) _ _).trans hT9)
                    have B10 := Box.mk (below_setCells (B := W.heap.size) (b := ub) (by have := hlt1.out; have := hlt2.out; omega) (treeC u2) 0 _ _ Bv.out)
                    replace hHeld := Box.mk hHeld
                    replace hT9 := Box.mk hT9
                    replace hU9 := Box.mk hU9
                    replace g1 := Box.mk g1
                    go_wp2
                    go_roundw
                    case rel => exact ⟨B10.out, j + 1, by omega, by go_num, hT10.out, by rw [hu2.out]; exact hU10.out⟩
                    case measure => simp [intOf]; omega
                  exact AllReadyH.nil
                exact AllReadyH.nil
              refine hreg_event (o := _) rfl (by rfl) (fun K hK => ?_) ?_
              · go_simp
                first
                  | (obtain ⟨wa, hwa⟩ : ∃ wn, wn = (wr.alloc (.cells (treeC zeroTree).toArray 28)).drew := ⟨_, rfl⟩; have hA : TB wa wr.heap.size zeroTree := by { rw [hwa]; exact heap_alloc_new wr _ }; have hb : Below wr.heap.size wr wa := by { rw [hwa]; exact ((Below.refl _ _).alloc (Nat.le_refl _) _).drew }; rw [← hwa]; clear hwa; obtain ⟨vb, hvb⟩ : ∃ n, wr.heap.size = n := ⟨_, rfl⟩; rw [hvb] at hA ⊢; replace hA := Box.mk hA; replace hvb := Box.mk (show wr.heap.size ≤ vb by omega))
                  | skip
                refine hK.out _ _ ?_ (fun hHeld' => ?_)
                · first
                    | exact ⟨hb⟩
                    | exact ⟨below_setCells (by have := hvb.out; omega) _ _ _ _ hHeld.out⟩
                    | exact hHeld.next hb
                    | exact hHeld
                    | exact hHeld.alloc _
                    | exact hHeld.setCell (by simp <;> omega) _
                    | exact (hHeld.alloc _).alloc _
                replace hHeld := hHeld'
                clear hHeld' hK K
                simp only [Act.put, List.setIfInBounds_toArray, List.set_cons_zero, List.set_cons_succ]
                refine wpAnyH_ready (rs := [5]) (by kernel_rfl) (by simp) ?_
                refine hreg_event (o := _) rfl (by rfl) (fun K hK => ?_) ?_
                · go_simp
                  first
                    | (go_at_call 8; refine (c4.out _).mono ?_; rintro e wz ⟨rfl, hb⟩; replace hA := Box.mk (hA.out.below hb); have hcp := hA.out.can 0 1025 (by omega); have hlt := hA.out.lt; unfold valT)
                    | skip
                  refine hK.out _ _ ?_ (fun hHeld' => ?_)
                  · first
                      | exact ⟨below_setCells (by have := hvb.out; omega) _ _ _ _ hHeld.out⟩
                      | exact hHeld.next hb
                      | exact hHeld
                      | exact hHeld.alloc _
                      | exact hHeld.setCell (by simp <;> omega) _
                      | exact (hHeld.alloc _).alloc _
                  replace hHeld := hHeld'
                  clear hHeld' hK K
                  simp only [Act.put, List.setIfInBounds_toArray, List.set_cons_zero, List.set_cons_succ]
                  refine hreg_take (i := 6) rfl (by kernel_rfl) (by kernel_rfl) (by kernel_rfl) hreg_panic (by rfl) hHeld ?_
                  apply Exists.intro
                  refine ⟨fun w' hw' => ?_, ?_⟩
                  · have hf := hall w' hw'
                    go_simp
                    try go_bits
                    exact yieldsV_mk rfl
                  simp only [Act.put, List.setIfInBounds_toArray, List.set_cons_zero, List.set_cons_succ]
                  refine hreg_take (i := 7) rfl (by kernel_rfl) (by kernel_rfl) (by kernel_rfl) hreg_panic (by rfl) hHeld ?_
                  apply Exists.intro
                  refine ⟨fun w' hw' => ?_, ?_⟩
                  · have hf := hall w' hw'
                    go_simp
                    try go_bits
                    exact yieldsV_mk rfl
                  simp only [Act.put, List.setIfInBounds_toArray, List.set_cons_zero, List.set_cons_succ]
                  refine hreg_take (i := 8) rfl (by kernel_rfl) (by kernel_rfl) (by kernel_rfl) hreg_panic (by rfl) hHeld ?_
                  apply Exists.intro
                  refine ⟨fun w' hw' => ?_, ?_⟩
                  · have hf := hall w' hw'
                    go_simp
                    try go_bits
                    exact yieldsV_mk rfl
                  simp only [Act.put, List.setIfInBounds_toArray, List.set_cons_zero, List.set_cons_succ]
                  refine wpAnyH_ready (rs := [10]) (by kernel_rfl) (by simp) ?_
                  refine hreg_event (o := _) rfl (by rfl) (fun K hK => ?_) ?_
                  · go_simp
                    first
                      | skip
                    refine hK.out _ _ ?_ (fun hHeld' => ?_)
                    · first
                        | exact ⟨below_setCells (by have := hvb.out; omega) _ _ _ _ hHeld.out⟩
                        | exact hHeld.next hb
                        | exact hHeld
                        | exact hHeld.alloc _
                        | exact hHeld.setCell (by simp <;> omega) _
                        | exact (hHeld.alloc _).alloc _
                    replace hHeld := hHeld'
                    clear hHeld' hK K
                    simp only [Act.put, List.setIfInBounds_toArray, List.set_cons_zero, List.set_cons_succ]
                    refine hreg_take (i := 11) rfl (by kernel_rfl) (by kernel_rfl) (by kernel_rfl) hreg_panic (by rfl) hHeld ?_
                    apply Exists.intro
                    refine ⟨fun w' hw' => ?_, ?_⟩
                    · have hf := hall w' hw'
                      go_simp
                      try go_bits
                      exact yieldsV_mk rfl
                    simp only [Act.put, List.setIfInBounds_toArray, List.set_cons_zero, List.set_cons_succ]
                    refine wpAnyH_done (by kernel_rfl) ?_ _
                    refine NoPanic.normal ?_
                    have hV1 := Box.mk (hA.out.putAll u2)
                    clear hA hcp hlt
                    generalize wz.setCells vb 0 (treeC u2) = wv at *
                    clear hall
                    have Bv := Box.mk (hb0.out.trans (hHeld.out.mono hb0.out.size))
                    have hT9 := hTw.out.below hHeld.out
                    have hU9 := hUw.out.below hHeld.out
                    have g1 := hUw.out.lt
                    obtain ⟨e1, e2⟩ := hV1.out.count
                    rw [hcn2.out, Int.natCast_add, Int.natCast_one] at e1
                    have e3 := hV1.out.row
                    have e4 := hV1.out.lt
                    have e5 := hU9.lt
                    have e6 := hU9.can 0 1025 (by omega)
                    have hU10 := Box.mk (hU9.putAll u2)
                    have hT10 : Box (TB (wv.setCells ub 0 (treeC u2)) tb T) := Box.mk ((setCells_ne (by have := hlt1.out; omega) _ _).trans hT9)
                    have B10 := Box.mk (below_setCells (B := W.heap.size) (b := ub) (by have := hlt1.out; have := hlt2.out; omega) (treeC u2) 0 _ _ Bv.out)
                    replace hHeld := Box.mk hHeld
                    replace hT9 := Box.mk hT9
                    replace hU9 := Box.mk hU9
                    replace g1 := Box.mk g1
                    go_wp2
                    go_roundw
                    case rel => exact ⟨B10.out, j + 1, by omega, by go_num, hT10.out, by rw [hu2.out]; exact hU10.out⟩
                    case measure => simp [intOf]; omega
                  exact AllReadyH.nil
                exact AllReadyH.nil
              exact AllReadyH.nil
            · obtain rfl : j = l.length := by omega
              rw [List.take_length, hT.out] at hUw
              have rT := hTw.row
              have rU := hUw.row
              have lT := hTw.lt
              have lU := hUw.lt
              obtain ⟨e1, e2⟩ := hTw.count
              rw [hTc.out] at e1
              have hall : ∀ w', SinceP wr w' → (rowOf w' ub 0 1025 = some (treeC T) ∧ ub < w'.heap.size ∧ rowOf w' tb 0 1025 = some (treeC T) ∧ tb < w'.heap.size ∧ w'.cell? ⟨tb, 0, none⟩ = some (.int .u32 l.length)) := fun w' hw => by
                have hzz := hw.out.size
                exact ⟨(rowOf_congr (hw.out.block ub lU) _ _).trans rU, by omega, (rowOf_congr (hw.out.block tb lT) _ _).trans rT, by omega, (hw.out.cell (p := ⟨tb, 0, none⟩) lT).trans e1⟩
              clear rT rU lT lU e1 e2
              have hLw := Box.mk (h.out.below hb0)
              replace hb0 := Box.mk hb0
              replace hTw := Box.mk hTw
              replace hUw := Box.mk hUw
              go_wp2_with fail
              refine hreg_begin (S := SinceP wr) (by kernel_rfl) (SinceP.refl _).drew (fun hHeld => ?_)
              simp only [List.length_cons, List.length_nil, Nat.zero_add, Nat.reduceAdd, Array.replicate]
              refine hreg_take (i := 0) rfl (by kernel_rfl) (by kernel_rfl) (by kernel_rfl) hreg_panic (by rfl) hHeld ?_
              apply Exists.intro
              refine ⟨fun w' hw' => ?_, ?_⟩
              · have hf := hall w' hw'
                go_simp
                try go_bits
                exact yieldsV_mk rfl
              simp only [Act.put, List.setIfInBounds_toArray, List.set_cons_zero, List.set_cons_succ]
              refine hreg_take (i := 1) rfl (by kernel_rfl) (by kernel_rfl) (by kernel_rfl) hreg_panic (by rfl) hHeld ?_
              apply Exists.intro
              refine ⟨fun w' hw' => ?_, ?_⟩
              · have hf := hall w' hw'
                go_simp
                try go_bits
                exact yieldsV_mk rfl
              simp only [Act.put, List.setIfInBounds_toArray, List.set_cons_zero, List.set_cons_succ]
              refine hreg_take (i := 2) rfl (by kernel_rfl) (by kernel_rfl) (by kernel_rfl) hreg_panic (by rfl) hHeld ?_
              apply Exists.intro
              refine ⟨fun w' hw' => ?_, ?_⟩
              · have hf := hall w' hw'
                go_simp
                try go_bits
                exact yieldsV_mk rfl
              simp only [Act.put, List.setIfInBounds_toArray, List.set_cons_zero, List.set_cons_succ]
              refine hreg_take (i := 3) rfl (by kernel_rfl) (by kernel_rfl) (by kernel_rfl) hreg_panic (by rfl) hHeld ?_
              apply Exists.intro
              refine ⟨fun w' hw' => ?_, ?_⟩
              · have hf := hall w' hw'
                go_simp
                try go_bits
                exact yieldsV_mk rfl
              simp only [Act.put, List.setIfInBounds_toArray, List.set_cons_zero, List.set_cons_succ]
              refine hreg_take (i := 4) rfl (by kernel_rfl) (by kernel_rfl) (by kernel_rfl) hreg_panic (by rfl) hHeld ?_
              apply Exists.intro
              refine ⟨fun w' hw' => ?_, ?_⟩
              · have hf := hall w' hw'
                go_simp
                try go_bits
                exact yieldsV_mk rfl
              simp only [Act.put, List.setIfInBounds_toArray, List.set_cons_zero, List.set_cons_succ]
              refine hreg_take (i := 5) rfl (by kernel_rfl) (by kernel_rfl) (by kernel_rfl) hreg_panic (by rfl) hHeld ?_
              apply Exists.intro
              refine ⟨fun w' hw' => ?_, ?_⟩
              · have hf := hall w' hw'
                go_simp
                try go_bits
                exact yieldsV_mk rfl
              simp only [Act.put, List.setIfInBounds_toArray, List.set_cons_zero, List.set_cons_succ]
              refine hreg_take (i := 6) rfl (by kernel_rfl) (by kernel_rfl) (by kernel_rfl) hreg_panic (by rfl) hHeld ?_
              apply Exists.intro
              refine ⟨fun w' hw' => ?_, ?_⟩
              · have hf := hall w' hw'
                go_simp
                try go_bits
                exact yieldsV_mk rfl
              simp only [Act.put, List.setIfInBounds_toArray, List.set_cons_zero, List.set_cons_succ]
              refine hreg_take (i := 7) rfl (by kernel_rfl) (by kernel_rfl) (by kernel_rfl) hreg_panic (by rfl) hHeld ?_
              apply Exists.intro
              refine ⟨fun w' hw' => ?_, ?_⟩
              · have hf := hall w' hw'
                go_simp
                try go_bits
                exact yieldsV_mk rfl
              simp only [Act.put, List.setIfInBounds_toArray, List.set_cons_zero, List.set_cons_succ]
              refine hreg_take (i := 8) rfl (by kernel_rfl) (by kernel_rfl) (by kernel_rfl) hreg_panic (by rfl) hHeld ?_
              apply Exists.intro
              refine ⟨fun w' hw' => ?_, ?_⟩
              · have hf := hall w' hw'
                go_simp
                try go_bits
                exact yieldsV_mk rfl
              simp only [Act.put, List.setIfInBounds_toArray, List.set_cons_zero, List.set_cons_succ]
              refine hreg_take (i := 9) rfl (by kernel_rfl) (by kernel_rfl) (by kernel_rfl) hreg_panic (by rfl) hHeld ?_
              apply Exists.intro
              refine ⟨fun w' hw' => ?_, ?_⟩
              · have hf := hall w' hw'
                go_simp
                try go_bits
                exact yieldsV_mk rfl
              simp only [Act.put, List.setIfInBounds_toArray, List.set_cons_zero, List.set_cons_succ]
              refine wpAnyH_ready (rs := [10]) (by kernel_rfl) (by simp) ?_
              refine hreg_event (o := _) rfl (by rfl) (fun K hK => ?_) ?_
              · go_simp
                first
                  | (go_at_call 11; refine (c3.out _ (hLw.out.below hHeld.out)).mono ?_; rintro e wn ⟨rfl, hb⟩)
                  | skip
                refine hK.out _ _ ?_ (fun hHeld' => ?_)
                · first
                    | exact hHeld.next hb
                    | exact hHeld
                    | exact hHeld.alloc _
                    | exact hHeld.setCell (by simp <;> omega) _
                    | exact (hHeld.alloc _).alloc _
                replace hHeld := hHeld'
                clear hHeld' hK K
                simp only [Act.put, List.setIfInBounds_toArray, List.set_cons_zero, List.set_cons_succ]
                refine hreg_take (i := 11) rfl (by kernel_rfl) (by kernel_rfl) (by kernel_rfl) hreg_panic (by rfl) hHeld ?_
                apply Exists.intro
                refine ⟨fun w' hw' => ?_, ?_⟩
                · have hf := hall w' hw'
                  go_simp
                  try go_bits
                  exact yieldsV_mk rfl
                simp only [Act.put, List.setIfInBounds_toArray, List.set_cons_zero, List.set_cons_succ]
                refine hreg_take (i := 12) rfl (by kernel_rfl) (by kernel_rfl) (by kernel_rfl) hreg_panic (by rfl) hHeld ?_
                apply Exists.intro
                refine ⟨fun w' hw' => ?_, ?_⟩
                · have hf := hall w' hw'
                  go_simp
                  try go_bits
                  exact yieldsV_mk rfl
                simp only [Act.put, List.setIfInBounds_toArray, List.set_cons_zero, List.set_cons_succ]
                refine hreg_take (i := 13) rfl (by kernel_rfl) (by kernel_rfl) (by kernel_rfl) hreg_panic (by rfl) hHeld ?_
                apply Exists.intro
                refine ⟨fun w' hw' => ?_, ?_⟩
                · have hf := hall w' hw'
                  go_simp
                  try go_bits
                  exact yieldsV_mk rfl
                simp only [Act.put, List.setIfInBounds_toArray, List.set_cons_zero, List.set_cons_succ]
                refine hreg_take (i := 14) rfl (by kernel_rfl) (by kernel_rfl) (by kernel_rfl) hreg_panic (by rfl) hHeld ?_
                apply Exists.intro
                refine ⟨fun w' hw' => ?_, ?_⟩
                · have hf := hall w' hw'
                  go_simp
                  try go_bits
                  exact yieldsV_mk rfl
                simp only [Act.put, List.setIfInBounds_toArray, List.set_cons_zero, List.set_cons_succ]
                refine hreg_take (i := 15) rfl (by kernel_rfl) (by kernel_rfl) (by kernel_rfl) hreg_panic (by rfl) hHeld ?_
                apply Exists.intro
                refine ⟨fun w' hw' => ?_, ?_⟩
                · have hf := hall w' hw'
                  go_simp
                  try go_bits
                  exact yieldsV_mk rfl
                simp only [Act.put, List.setIfInBounds_toArray, List.set_cons_zero, List.set_cons_succ]
                refine hreg_take (i := 16) rfl (by kernel_rfl) (by kernel_rfl) (by kernel_rfl) hreg_panic (by rfl) hHeld ?_
                apply Exists.intro
                refine ⟨fun w' hw' => ?_, ?_⟩
                · have hf := hall w' hw'
                  go_simp
                  try go_bits
                  exact yieldsV_mk rfl
                simp only [Act.put, List.setIfInBounds_toArray, List.set_cons_zero, List.set_cons_succ]
                refine hreg_take (i := 17) rfl (by kernel_rfl) (by kernel_rfl) (by kernel_rfl) hreg_panic (by rfl) hHeld ?_
                apply Exists.intro
                refine ⟨fun w' hw' => ?_, ?_⟩
                · have hf := hall w' hw'
                  go_simp
                  try go_bits
                  exact yieldsV_mk rfl
                simp only [Act.put, List.setIfInBounds_toArray, List.set_cons_zero, List.set_cons_succ]
                refine hreg_take (i := 18) rfl (by kernel_rfl) (by kernel_rfl) (by kernel_rfl) hreg_panic (by rfl) hHeld ?_
                apply Exists.intro
                refine ⟨fun w' hw' => ?_, ?_⟩
                · have hf := hall w' hw'
                  go_simp
                  try go_bits
                  exact yieldsV_mk rfl
                simp only [Act.put, List.setIfInBounds_toArray, List.set_cons_zero, List.set_cons_succ]
                refine hreg_take (i := 19) rfl (by kernel_rfl) (by kernel_rfl) (by kernel_rfl) hreg_panic (by rfl) hHeld ?_
                apply Exists.intro
                refine ⟨fun w' hw' => ?_, ?_⟩
                · have hf := hall w' hw'
                  go_simp
                  try go_bits
                  exact yieldsV_mk rfl
                simp only [Act.put, List.setIfInBounds_toArray, List.set_cons_zero, List.set_cons_succ]
                refine hreg_take (i := 20) rfl (by kernel_rfl) (by kernel_rfl) (by kernel_rfl) hreg_panic (by rfl) hHeld ?_
                apply Exists.intro
                refine ⟨fun w' hw' => ?_, ?_⟩
                · have hf := hall w' hw'
                  go_simp
                  try go_bits
                  exact yieldsV_mk rfl
                simp only [Act.put, List.setIfInBounds_toArray, List.set_cons_zero, List.set_cons_succ]
                refine hreg_take (i := 21) rfl (by kernel_rfl) (by kernel_rfl) (by kernel_rfl) hreg_panic (by rfl) hHeld ?_
                apply Exists.intro
                refine ⟨fun w' hw' => ?_, ?_⟩
                · have hf := hall w' hw'
                  go_simp
                  try go_bits
                  exact yieldsV_mk rfl
                simp only [Act.put, List.setIfInBounds_toArray, List.set_cons_zero, List.set_cons_succ]
                refine wpAnyH_done (by kernel_rfl) ?_ _
                refine NoPanic.normal ?_
                have bf := hb0.out.trans (hHeld.out.mono hb0.out.size)
                go_wp2
                go_ret
                exact gives_bool rfl bf
              exact AllReadyH.nil
        exact AllReadyH.nil
      exact AllReadyH.nil
    refine hreg_event (o := _) rfl (by rfl) (fun K hK => ?_) ?_
    · go_simp
      first
        | (obtain ⟨wm, hwm⟩ : ∃ wn, wn = wb.alloc (.cells (treeC zeroTree).toArray 28) := ⟨_, rfl⟩; have hA : TB wm wb.heap.size zeroTree := by { rw [hwm]; exact heap_alloc_new wb _ }; have hb : Below wb.heap.size wb wm := by { rw [hwm]; exact (Below.refl _ _).alloc (Nat.le_refl _) _ }; rw [← hwm]; clear hwm; obtain ⟨tb, htb⟩ : ∃ n, wb.heap.size = n := ⟨_, rfl⟩; rw [htb] at hA ⊢; replace hA := Box.mk hA; replace htb := Box.mk (show w1.heap.size ≤ tb by { have := hHeld.out.size; omega }))
        | skip
      refine hK.out _ _ ?_ (fun hHeld' => ?_)
      · first
          | exact ⟨below_setCells (by have := htb.out; omega) _ _ _ _ hHeld.out⟩
          | exact hHeld.next hb
          | exact hHeld
          | exact hHeld.alloc _
          | exact hHeld.setCell (by simp <;> omega) _
          | exact (hHeld.alloc _).alloc _
      replace hHeld := hHeld'
      clear hHeld' hK K
      simp only [Act.put, List.setIfInBounds_toArray, List.set_cons_zero, List.set_cons_succ]
      refine wpAnyH_ready (rs := [7]) (by kernel_rfl) (by simp) ?_
      refine hreg_event (o := _) rfl (by rfl) (fun K hK => ?_) ?_
      · go_simp
        first
          | (go_at_call 9; refine (c2.out _ (L2w.out.below hHeld.out)).mono ?_; rintro e wz ⟨rfl, hb⟩; replace hA := Box.mk (hA.out.below hb); have hcp := hA.out.can 0 1025 (by omega); have hlt := hA.out.lt; unfold valT)
          | skip
        refine hK.out _ _ ?_ (fun hHeld' => ?_)
        · first
            | exact ⟨below_setCells (by have := htb.out; omega) _ _ _ _ hHeld.out⟩
            | exact hHeld.next hb
            | exact hHeld
            | exact hHeld.alloc _
            | exact hHeld.setCell (by simp <;> omega) _
            | exact (hHeld.alloc _).alloc _
        replace hHeld := hHeld'
        clear hHeld' hK K
        simp only [Act.put, List.setIfInBounds_toArray, List.set_cons_zero, List.set_cons_succ]
        refine hreg_take (i := 8) rfl (by kernel_rfl) (by kernel_rfl) (by kernel_rfl) hreg_panic (by rfl) hHeld ?_
        apply Exists.intro
        refine ⟨fun w' hw' => ?_, ?_⟩
        · have hf := hall w' hw'
          go_simp
          try go_bits
          exact yieldsV_mk rfl
        simp only [Act.put, List.setIfInBounds_toArray, List.set_cons_zero, List.set_cons_succ]
        refine hreg_take (i := 9) rfl (by kernel_rfl) (by kernel_rfl) (by kernel_rfl) hreg_panic (by rfl) hHeld ?_
        apply Exists.intro
        refine ⟨fun w' hw' => ?_, ?_⟩
        · have hf := hall w' hw'
          go_simp
          try go_bits
          exact yieldsV_mk rfl
        simp only [Act.put, List.setIfInBounds_toArray, List.set_cons_zero, List.set_cons_succ]
        refine hreg_take (i := 10) rfl (by kernel_rfl) (by kernel_rfl) (by kernel_rfl) hreg_panic (by rfl) hHeld ?_
        apply Exists.intro
        refine ⟨fun w' hw' => ?_, ?_⟩
        · have hf := hall w' hw'
          go_simp
          try go_bits
          exact yieldsV_mk rfl
        simp only [Act.put, List.setIfInBounds_toArray, List.set_cons_zero, List.set_cons_succ]
        refine wpAnyH_ready (rs := [12]) (by kernel_rfl) (by simp) ?_
        refine hreg_event (o := _) rfl (by rfl) (fun K hK => ?_) ?_
        · go_simp
          first
            | skip
          refine hK.out _ _ ?_ (fun hHeld' => ?_)
          · first
              | exact ⟨below_setCells (by have := htb.out; omega) _ _ _ _ hHeld.out⟩
              | exact hHeld.next hb
              | exact hHeld
              | exact hHeld.alloc _
              | exact hHeld.setCell (by simp <;> omega) _
              | exact (hHeld.alloc _).alloc _
          replace hHeld := hHeld'
          clear hHeld' hK K
          simp only [Act.put, List.setIfInBounds_toArray, List.set_cons_zero, List.set_cons_succ]
          refine hreg_take (i := 13) rfl (by kernel_rfl) (by kernel_rfl) (by kernel_rfl) hreg_panic (by rfl) hHeld ?_
          apply Exists.intro
          refine ⟨fun w' hw' => ?_, ?_⟩
          · have hf := hall w' hw'
            go_simp
            try go_bits
            exact yieldsV_mk rfl
          simp only [Act.put, List.setIfInBounds_toArray, List.set_cons_zero, List.set_cons_succ]
          refine wpAnyH_done (by kernel_rfl) ?_ _
          refine NoPanic.normal ?_
          have hT1 := Box.mk (hA.out.putAll T)
          clear hA hcp hlt
          generalize wz.setCells tb 0 (treeC T) = w3 at *
          have B3 := Box.mk (b1.out.trans (hHeld.out.mono b1.out.size))
          replace hHeld := Box.mk hHeld
          go_wp2_with fail
          refine (c0.out w3).mono ?_
          rintro e w4 ⟨rfl, b4⟩
          have b5 := b4.alloc b4.size (.cells (treeC zeroTree).toArray 28)
          have hU5 : TB (w4.alloc (.cells (treeC zeroTree).toArray 28)) w4.heap.size zeroTree := heap_alloc_new w4 _
          have hT5 := hT1.out.below b5
          have B5 := B3.out.trans (b5.mono B3.out.size)
          have g1 := hT1.out.lt
          have g2 := b4.size
          have g3 := b1.out.size
          have g4 := htb.out
          obtain ⟨ub, hub⟩ : ∃ n, w4.heap.size = n := ⟨_, rfl⟩
          rw [hub] at hU5
          have hlt1 : tb < ub := by omega
          have hlt2 : W.heap.size ≤ tb := by omega
          clear g1 g2 g3 g4
          replace hlt1 := Box.mk hlt1
          replace hlt2 := Box.mk hlt2
          replace b4 := Box.mk b4
          replace b5 := Box.mk b5
          replace hU5 := Box.mk hU5
          replace hT5 := Box.mk hT5
          replace B5 := Box.mk B5
          go_wp2_with fail
          generalize w4.alloc (.cells (treeC zeroTree).toArray 28) = w5 at *
          replace hub := Box.mk hub
          go_loopw [9] (fun i wr => Below W.heap.size W wr ∧ ∃ j : Nat, j ≤ l.length ∧ i = .int .i64 j ∧ TB wr tb T ∧ TB wr ub (putsT zeroTree (l.take j))) (fun i _ => l.length - (intOf i).toNat)
          case atStart => exact ⟨B5.out, 0, Nat.zero_le _, rfl, hT5.out, hU5.out⟩
          case round =>
            obtain ⟨hb0, j, hj, rfl, hTw, hUw⟩ := hrel
            clear hall
            by_cases hlt : j < l.length
            · have hlt' : (j : Int) < l.length := by omega
              obtain ⟨x, hx⟩ : ∃ x, l[j]? = some x := ⟨_, List.getElem?_eq_getElem hlt⟩
              obtain ⟨bk, o, hae, hbk, hr⟩ := h.out.at hx
              have R1 : rowOf wr bk (o + j * 32) 32 = some (keyC x) := by rw [rowOf_congr (hb0.block bk hbk)]; exact hr
              have hbkw : bk < wr.heap.size := Nat.lt_of_lt_of_le hbk hb0.size
              have hnext : putsT zeroTree (l.take (j + 1)) = putT (putsT zeroTree (l.take j)) x := by rw [List.take_add_one, hx]; exact putsT_snoc _ _ _
              have hcnt : (putsT zeroTree (l.take j)).count = j := by rw [putsT_count, List.length_take]; show 0 + _ = _; omega
              have c4 := fun w => append_any (putsT zeroTree (l.take j)) x w (by rw [hcnt]; omega)
              have hcn2 := putT_count (putsT zeroTree (l.take j)) x
              rw [hcnt] at hcn2
              rw [← hnext] at c4 hcn2
              obtain ⟨u2, hu2⟩ : ∃ t, putsT zeroTree (l.take (j + 1)) = t := ⟨_, rfl⟩
              rw [hu2] at c4 hcn2 hnext
              replace hu2 := Box.mk hu2
              generalize putsT zeroTree (l.take j) = u at *
              replace hnext := Box.mk hnext
              replace hcnt := Box.mk hcnt
              replace hcn2 := Box.mk hcn2
              have rU := hUw.row
              have lU := hUw.lt
              subst hae
              have hall : ∀ w', SinceP wr w' → (rowOf w' ub 0 1025 = some (treeC u) ∧ ub < w'.heap.size ∧ rowOf w' bk (o + j * 32) 32 = some (keyC x) ∧ bk < w'.heap.size) := fun w' hw => by
                have hzz := hw.out.size
                exact ⟨(rowOf_congr (hw.out.block ub lU) _ _).trans rU, by omega, (rowOf_congr (hw.out.block bk hbkw) _ _).trans R1, by omega⟩
              clear rU lU R1 hbkw
              have hj32 : (j : Int) % 4294967296 = j := by omega
              have hj33 : ((j : Int) + 1) % 4294967296 = j + 1 := by omega
              replace h := Box.mk h.out
              replace hx := Box.mk hx
              replace hr := Box.mk hr
              replace hb0 := Box.mk hb0
              replace hTw := Box.mk hTw
              replace hUw := Box.mk hUw
              replace c4 := Box.mk c4
              replace hbk := Box.mk hbk
              go_wp2_with fail
              refine hreg_begin (S := SinceP wr) (by kernel_rfl) (SinceP.refl _).drew (fun hHeld => ?_)
              simp only [List.length_cons, List.length_nil, Nat.zero_add, Nat.reduceAdd, Array.replicate]
              refine hreg_take (i := 0) rfl (by kernel_rfl) (by kernel_rfl) (by kernel_rfl) hreg_panic (by rfl) hHeld ?_
              apply Exists.intro
              refine ⟨fun w' hw' => ?_, ?_⟩
              · have hf := hall w' hw'
                go_simp
                try go_bits
                exact yieldsV_mk rfl
              simp only [Act.put, List.setIfInBounds_toArray, List.set_cons_zero, List.set_cons_succ]
              refine hreg_take (i := 1) rfl (by kernel_rfl) (by kernel_rfl) (by kernel_rfl) hreg_panic (by rfl) hHeld ?_
              apply Exists.intro
              refine ⟨fun w' hw' => ?_, ?_⟩
              · have hf := hall w' hw'
                go_simp
                try go_bits
                exact yieldsV_mk rfl
              simp only [Act.put, List.setIfInBounds_toArray, List.set_cons_zero, List.set_cons_succ]
              refine hreg_take (i := 2) rfl (by kernel_rfl) (by kernel_rfl) (by kernel_rfl) hreg_panic (by rfl) hHeld ?_
              apply Exists.intro
              refine ⟨fun w' hw' => ?_, ?_⟩
              · have hf := hall w' hw'
                go_simp
                try go_bits
                exact yieldsV_mk rfl
              simp only [Act.put, List.setIfInBounds_toArray, List.set_cons_zero, List.set_cons_succ]
              refine hreg_take (i := 3) rfl (by kernel_rfl) (by kernel_rfl) (by kernel_rfl) hreg_panic (by rfl) hHeld ?_
              apply Exists.intro
              refine ⟨fun w' hw' => ?_, ?_⟩
              · have hf := hall w' hw'
                go_simp
                try go_bits
                exact yieldsV_mk rfl
              simp only [Act.put, List.setIfInBounds_toArray, List.set_cons_zero, List.set_cons_succ]
              refine hreg_take (i := 4) rfl (by kernel_rfl) (by kernel_rfl) (by kernel_rfl) hreg_panic (by rfl) hHeld ?_
              apply Exists.intro
              refine ⟨fun w' hw' => ?_, ?_⟩
              · have hf := hall w' hw'
                go_simp
                try go_bits
                exact yieldsV_mk rfl
              simp only [Act.put, List.setIfInBounds_toArray, List.set_cons_zero, List.set_cons_succ]
              refine wpAnyH_ready (rs := [5, 9]) (by kernel_rfl) (by simp) ?_
              refine hreg_event (o := _) rfl (by rfl) (fun K hK => ?_) ?_
              · go_simp
                first
                  | (go_at_call 8; refine (c4.out _).mono ?_; rintro e wc ⟨rfl, hb⟩; unfold valT)
                  | skip
                refine hK.out _ _ ?_ (fun hHeld' => ?_)
                · first
                    | exact ⟨below_setCells (by have := hvb.out; omega) _ _ _ _ hHeld.out⟩
                    | exact hHeld.next hb
                    | exact hHeld
                    | exact hHeld.alloc _
                    | exact hHeld.setCell (by simp <;> omega) _
                    | exact (hHeld.alloc _).alloc _
                replace hHeld := hHeld'
                clear hHeld' hK K
                simp only [Act.put, List.setIfInBounds_toArray, List.set_cons_zero, List.set_cons_succ]
                refine hreg_take (i := 6) rfl (by kernel_rfl) (by kernel_rfl) (by kernel_rfl) hreg_panic (by rfl) hHeld ?_
                apply Exists.intro
                refine ⟨fun w' hw' => ?_, ?_⟩
                · have hf := hall w' hw'
                  go_simp
                  try go_bits
                  exact yieldsV_mk rfl
                simp only [Act.put, List.setIfInBounds_toArray, List.set_cons_zero, List.set_cons_succ]
                refine hreg_take (i := 7) rfl (by kernel_rfl) (by kernel_rfl) (by kernel_rfl) hreg_panic (by rfl) hHeld ?_
                apply Exists.intro
                refine ⟨fun w' hw' => ?_, ?_⟩
                · have hf := hall w' hw'
                  go_simp
                  try go_bits
                  exact yieldsV_mk rfl
                simp only [Act.put, List.setIfInBounds_toArray, List.set_cons_zero, List.set_cons_succ]
                refine hreg_take (i := 8) rfl (by kernel_rfl) (by kernel_rfl) (by kernel_rfl) hreg_panic (by rfl) hHeld ?_
                apply Exists.intro
                refine ⟨fun w' hw' => ?_, ?_⟩
                · have hf := hall w' hw'
                  go_simp
                  try go_bits
                  exact yieldsV_mk rfl
                simp only [Act.put, List.setIfInBounds_toArray, List.set_cons_zero, List.set_cons_succ]
                refine wpAnyH_ready (rs := [9]) (by kernel_rfl) (by simp) ?_
                refine hreg_event (o := _) rfl (by rfl) (fun K hK => ?_) ?_
                · go_simp
                  first
                    | (obtain ⟨wz, hwz⟩ : ∃ wn, wn = wc.alloc (.cells (treeC zeroTree).toArray 28) := ⟨_, rfl⟩; have hA : TB wz wc.heap.size zeroTree := by { rw [hwz]; exact heap_alloc_new wc _ }; have hb : Below wc.heap.size wc wz := by { rw [hwz]; exact (Below.refl _ _).alloc (Nat.le_refl _) _ }; rw [← hwz]; clear hwz; obtain ⟨vb, hvb⟩ : ∃ n, wc.heap.size = n := ⟨_, rfl⟩; rw [hvb] at hA ⊢; replace hA := Box.mk hA; replace hvb := Box.mk (show wr.heap.size ≤ vb by { have := hHeld.out.size; omega }); have hcp := hA.out.can 0 1025 (by omega); have hlt := hA.out.lt)
                    | skip
                  refine hK.out _ _ ?_ (fun hHeld' => ?_)
                  · first
                      | exact ⟨below_setCells (by have := hvb.out; omega) _ _ _ _ hHeld.out⟩
                      | exact hHeld.next hb
                      | exact hHeld
                      | exact hHeld.alloc _
                      | exact hHeld.setCell (by simp <;> omega) _
                      | exact (hHeld.alloc _).alloc _
                  replace hHeld := hHeld'
                  clear hHeld' hK K
                  simp only [Act.put, List.setIfInBounds_toArray, List.set_cons_zero, List.set_cons_succ]
                  refine wpAnyH_ready (rs := [10]) (by kernel_rfl) (by simp) ?_
                  refine hreg_event (o := _) rfl (by rfl) (fun K hK => ?_) ?_
                  · go_simp
                    first
                      | skip
                    refine hK.out _ _ ?_ (fun hHeld' => ?_)
                    · first
                        | exact ⟨below_setCells (by have := hvb.out; omega) _ _ _ _ hHeld.out⟩
                        | exact hHeld.next hb
                        | exact hHeld
                        | exact hHeld.alloc _
                        | exact hHeld.setCell (by simp <;> omega) _
                        | exact (hHeld.alloc _).alloc _
                    replace hHeld := hHeld'
                    clear hHeld' hK K
                    simp only [Act.put, List.setIfInBounds_toArray, List.set_cons_zero, List.set_cons_succ]
                    refine hreg_take (i := 11) rfl (by kernel_rfl) (by kernel_rfl) (by kernel_rfl) hreg_panic (by rfl) hHeld ?_
                    apply Exists.intro
                    refine ⟨fun w' hw' => ?_, ?_⟩
                    · have hf := hall w' hw'
                      go_simp
                      try go_bits
                      exact yieldsV_mk rfl
                    simp only [Act.put, List.setIfInBounds_toArray, List.set_cons_zero, List.set_cons_succ]
                    refine wpAnyH_done (by kernel_rfl) ?_ _
                    refine NoPanic.normal ?_
                    have hV1 := Box.mk (hA.out.putAll u2)
                    clear hA hcp hlt
                    generalize wz.setCells vb 0 (treeC u2) = wv at *
                    clear hall
                    have Bv := Box.mk (hb0.out.trans (hHeld.out.mono hb0.out.size))
                    have hT9 := hTw.out.below hHeld.out
                    have hU9 := hUw.out.below hHeld.out
                    have g1 := hUw.out.lt
                    obtain ⟨e1, e2⟩ := hV1.out.count
                    rw [hcn2.out, Int.natCast_add, Int.natCast_one] at e1
                    have e3 := hV1.out.row
                    have e4 := hV1.out.lt
                    have e5 := hU9.lt
                    have e6 := hU9.can 0 1025 (by omega)
                    have hU10 := Box.mk (hU9.putAll u2)
                    have hT10 : Box (TB (wv.setCells ub 0 (treeC u2)) tb T) := Box.mk ((setCells_ne (by have := hlt1.out; omega) _ _).trans hT9)
                    have B10 := Box.mk (below_setCells (B := W.heap.size) (b := ub) (by have := hlt1.out; have := hlt2.out; omega) (treeC u2) 0 _ _ Bv.out)
                    replace hHeld := Box.mk hHeld
                    replace hT9 := Box.mk hT9
                    replace hU9 := Box.mk hU9
                    replace g1 := Box.mk g1
                    go_wp2
                    go_roundw
                    case rel => exact ⟨B10.out, j + 1, by omega, by go_num, hT10.out, by rw [hu2.out]; exact hU10.out⟩
                    case measure => simp [intOf]; omega
                  exact AllReadyH.nil
                exact AllReadyH.nil
              refine hreg_event (o := _) rfl (by rfl) (fun K hK => ?_) ?_
              · go_simp
                first
                  | (obtain ⟨wa, hwa⟩ : ∃ wn, wn = (wr.alloc (.cells (treeC zeroTree).toArray 28)).drew := ⟨_, rfl⟩; have hA : TB wa wr.heap.size zeroTree := by { rw [hwa]; exact heap_alloc_new wr _ }; have hb : Below wr.heap.size wr wa := by { rw [hwa]; exact ((Below.refl _ _).alloc (Nat.le_refl _) _).drew }; rw [← hwa]; clear hwa; obtain ⟨vb, hvb⟩ : ∃ n, wr.heap.size = n := ⟨_, rfl⟩; rw [hvb] at hA ⊢; replace hA := Box.mk hA; replace hvb := Box.mk (show wr.heap.size ≤ vb by omega))
                  | skip
                refine hK.out _ _ ?_ (fun hHeld' => ?_)
                · first
                    | exact ⟨hb⟩
                    | exact ⟨below_setCells (by have := hvb.out; omega) _ _ _ _ hHeld.out⟩
                    | exact hHeld.next hb
                    | exact hHeld
                    | exact hHeld.alloc _
                    | exact hHeld.setCell (by simp <;> omega) _
                    | exact (hHeld.alloc _).alloc _
                replace hHeld := hHeld'
                clear hHeld' hK K
                simp only [Act.put, List.setIfInBounds_toArray, List.set_cons_zero, List.set_cons_succ]
                refine wpAnyH_ready (rs := [5]) (by kernel_rfl) (by simp) ?_
                refine hreg_event (o := _) rfl (by rfl) (fun K hK => ?_) ?_
                · go_simp
                  first
                    | (go_at_call 8; refine (c4.out _).mono ?_; rintro e wz ⟨rfl, hb⟩; replace hA := Box.mk (hA.out.below hb); have hcp := hA.out.can 0 1025 (by omega); have hlt := hA.out.lt; unfold valT)
                    | skip
                  refine hK.out _ _ ?_ (fun hHeld' => ?_)
                  · first
                      | exact ⟨below_setCells (by have := hvb.out; omega) _ _ _ _ hHeld.out⟩
                      | exact hHeld.next hb
                      | exact hHeld
                      | exact hHeld.alloc _
                      | exact hHeld.setCell (by simp <;> omega) _
                      | exact (hHeld.alloc _).alloc _
                  replace hHeld := hHeld'
                  clear hHeld' hK K
                  simp only [Act.put, List.setIfInBounds_toArray, List.set_cons_zero, List.set_cons_succ]
                  refine hreg_take (i := 6) rfl (by kernel_rfl) (by kernel_rfl) (by kernel_rfl) hreg_panic (by rfl) hHeld ?_
                  apply Exists.intro
                  refine ⟨fun w' hw' => ?_, ?_⟩
                  · have hf := hall w' hw'
                    go_simp
                    try go_bits
                    exact yieldsV_mk rfl
                  simp only [Act.put, List.setIfInBounds_toArray, List.set_cons_zero, List.set_cons_succ]
                  refine hreg_take (i := 7) rfl (by kernel_rfl) (by kernel_rfl) (by kernel_rfl) hreg_panic (by rfl) hHeld ?_
                  apply Exists.intro
                  refine ⟨fun w' hw' => ?_, ?_⟩
                  · have hf := hall w' hw'
                    go_simp
                    try go_bits
                    exact yieldsV_mk rfl
                  simp only [Act.put, List.setIfInBounds_toArray, List.set_cons_zero, List.set_cons_succ]
                  refine hreg_take (i := 8) rfl (by kernel_rfl) (by kernel_rfl) (by kernel_rfl) hreg_panic (by rfl) hHeld ?_
                  apply Exists.intro
                  refine ⟨fun w' hw' => ?_, ?_⟩
                  · have hf := hall w' hw'
                    go_simp
                    try go_bits
                    exact yieldsV_mk rfl
                  simp only [Act.put, List.setIfInBounds_toArray, List.set_cons_zero, List.set_cons_succ]
                  refine wpAnyH_ready (rs := [10]) (by kernel_rfl) (by simp) ?_
                  refine hreg_event (o := _) rfl (by rfl) (fun K hK => ?_) ?_
                  · go_simp
                    first
                      | skip
                    refine hK.out _ _ ?_ (fun hHeld' => ?_)
                    · first
                        | exact ⟨below_setCells (by have := hvb.out; omega) _ _ _ _ hHeld.out⟩
                        | exact hHeld.next hb
                        | exact hHeld
                        | exact hHeld.alloc _
                        | exact hHeld.setCell (by simp <;> omega) _
                        | exact (hHeld.alloc _).alloc _
                    replace hHeld := hHeld'
                    clear hHeld' hK K
                    simp only [Act.put, List.setIfInBounds_toArray, List.set_cons_zero, List.set_cons_succ]
                    refine hreg_take (i := 11) rfl (by kernel_rfl) (by kernel_rfl) (by kernel_rfl) hreg_panic (by rfl) hHeld ?_
                    apply Exists.intro
                    refine ⟨fun w' hw' => ?_, ?_⟩
                    · have hf := hall w' hw'
                      go_simp
                      try go_bits
                      exact yieldsV_mk rfl
                    simp only [Act.put, List.setIfInBounds_toArray, List.set_cons_zero, List.set_cons_succ]
                    refine wpAnyH_done (by kernel_rfl) ?_ _
                    refine NoPanic.normal ?_
                    have hV1 := Box.mk (hA.out.putAll u2)
                    clear hA hcp hlt
                    generalize wz.setCells vb 0 (treeC u2) = wv at *
                    clear hall
                    have Bv := Box.mk (hb0.out.trans (hHeld.out.mono hb0.out.size))
                    have hT9 := hTw.out.below hHeld.out
                    have hU9 := hUw.out.below hHeld.out
                    have g1 := hUw.out.lt
                    obtain ⟨e1, e2⟩ := hV1.out.count
                    rw [hcn2.out, Int.natCast_add, Int.natCast_one] at e1
                    have e3 := hV1.out.row
                    have e4 := hV1.out.lt
                    have e5 := hU9.lt
                    have e6 := hU9.can 0 1025 (by omega)
                    have hU10 := Box.mk (hU9.putAll u2)
                    have hT10 : Box (TB (wv.setCells ub 0 (treeC u2)) tb T) := Box.mk ((setCells_ne (by have := hlt1.out; omega) _ _).trans hT9)
                    have B10 := Box.mk (below_setCells (B := W.heap.size) (b := ub) (by have := hlt1.out; have := hlt2.out; omega) (treeC u2) 0 _ _ Bv.out)
                    replace hHeld := Box.mk hHeld
                    replace hT9 := Box.mk hT9
                    replace hU9 := Box.mk hU9
                    replace g1 := Box.mk g1
                    go_wp2
                    go_roundw
                    case rel => exact ⟨B10.out, j + 1, by omega, by go_num, hT10.out, by rw [hu2.out]; exact hU10.out⟩
                    case measure => simp [intOf]; omega
                  exact AllReadyH.nil
                exact AllReadyH.nil
              exact AllReadyH.nil
            · obtain rfl : j = l.length := by omega
              rw [List.take_length, hT.out] at hUw
              have rT := hTw.row
              have rU := hUw.row
              have lT := hTw.lt
              have lU := hUw.lt
              obtain ⟨e1, e2⟩ := hTw.count
              rw [hTc.out] at e1
              have hall : ∀ w', SinceP wr w' → (rowOf w' ub 0 1025 = some (treeC T) ∧ ub < w'.heap.size ∧ rowOf w' tb 0 1025 = some (treeC T) ∧ tb < w'.heap.size ∧ w'.cell? ⟨tb, 0, none⟩ = some (.int .u32 l.length)) := fun w' hw => by
                have hzz := hw.out.size
                exact ⟨(rowOf_congr (hw.out.block ub lU) _ _).trans rU, by omega, (rowOf_congr (hw.out.block tb lT) _ _).trans rT, by omega, (hw.out.cell (p := ⟨tb, 0, none⟩) lT).trans e1⟩
              clear rT rU lT lU e1 e2
              have hLw := Box.mk (h.out.below hb0)
              replace hb0 := Box.mk hb0
              replace hTw := Box.mk hTw
              replace hUw := Box.mk hUw
              go_wp2_with fail
              refine hreg_begin (S := SinceP wr) (by kernel_rfl) (SinceP.refl _).drew (fun hHeld => ?_)
              simp only [List.length_cons, List.length_nil, Nat.zero_add, Nat.reduceAdd, Array.replicate]
              refine hreg_take (i := 0) rfl (by kernel_rfl) (by kernel_rfl) (by kernel_rfl) hreg_panic (by rfl) hHeld ?_
              apply Exists.intro
              refine ⟨fun w' hw' => ?_, ?_⟩
              · have hf := hall w' hw'
                go_simp
                try go_bits
                exact yieldsV_mk rfl
              simp only [Act.put, List.setIfInBounds_toArray, List.set_cons_zero, List.set_cons_succ]
              refine hreg_take (i := 1) rfl (by kernel_rfl) (by kernel_rfl) (by kernel_rfl) hreg_panic (by rfl) hHeld ?_
              apply Exists.intro
              refine ⟨fun w' hw' => ?_, ?_⟩
              · have hf := hall w' hw'
                go_simp
                try go_bits
                exact yieldsV_mk rfl
              simp only [Act.put, List.setIfInBounds_toArray, List.set_cons_zero, List.set_cons_succ]
              refine hreg_take (i := 2) rfl (by kernel_rfl) (by kernel_rfl) (by kernel_rfl) hreg_panic (by rfl) hHeld ?_
              apply Exists.intro
              refine ⟨fun w' hw' => ?_, ?_⟩
              · have hf := hall w' hw'
                go_simp
                try go_bits
                exact yieldsV_mk rfl
              simp only [Act.put, List.setIfInBounds_toArray, List.set_cons_zero, List.set_cons_succ]
              refine hreg_take (i := 3) rfl (by kernel_rfl) (by kernel_rfl) (by kernel_rfl) hreg_panic (by rfl) hHeld ?_
              apply Exists.intro
              refine ⟨fun w' hw' => ?_, ?_⟩
              · have hf := hall w' hw'
                go_simp
                try go_bits
                exact yieldsV_mk rfl
              simp only [Act.put, List.setIfInBounds_toArray, List.set_cons_zero, List.set_cons_succ]
              refine hreg_take (i := 4) rfl (by kernel_rfl) (by kernel_rfl) (by kernel_rfl) hreg_panic (by rfl) hHeld ?_
              apply Exists.intro
              refine ⟨fun w' hw' => ?_, ?_⟩
              · have hf := hall w' hw'
                go_simp
                try go_bits
                exact yieldsV_mk rfl
              simp only [Act.put, List.setIfInBounds_toArray, List.set_cons_zero, List.set_cons_succ]
              refine hreg_take (i := 5) rfl (by kernel_rfl) (by kernel_rfl) (by kernel_rfl) hreg_panic (by rfl) hHeld ?_
              apply Exists.intro
              refine ⟨fun w' hw' => ?_, ?_⟩
              · have hf := hall w' hw'
                go_simp
                try go_bits
                exact yieldsV_mk rfl
              simp only [Act.put, List.setIfInBounds_toArray, List.set_cons_zero, List.set_cons_succ]
              refine hreg_take (i := 6) rfl (by kernel_rfl) (by kernel_rfl) (by kernel_rfl) hreg_panic (by rfl) hHeld ?_
              apply Exists.intro
              refine ⟨fun w' hw' => ?_, ?_⟩
              · have hf := hall w' hw'
                go_simp
                try go_bits
                exact yieldsV_mk rfl
              simp only [Act.put, List.setIfInBounds_toArray, List.set_cons_zero, List.set_cons_succ]
              refine hreg_take (i := 7) rfl (by kernel_rfl) (by kernel_rfl) (by kernel_rfl) hreg_panic (by rfl) hHeld ?_
              apply Exists.intro
              refine ⟨fun w' hw' => ?_, ?_⟩
              · have hf := hall w' hw'
                go_simp
                try go_bits
                exact yieldsV_mk rfl
              simp only [Act.put, List.setIfInBounds_toArray, List.set_cons_zero, List.set_cons_succ]
              refine hreg_take (i := 8) rfl (by kernel_rfl) (by kernel_rfl) (by kernel_rfl) hreg_panic (by rfl) hHeld ?_
              apply Exists.intro
              refine ⟨fun w' hw' => ?_, ?_⟩
              · have hf := hall w' hw'
                go_simp
                try go_bits
                exact yieldsV_mk rfl
              simp only [Act.put, List.setIfInBounds_toArray, List.set_cons_zero, List.set_cons_succ]
              refine hreg_take (i := 9) rfl (by kernel_rfl) (by kernel_rfl) (by kernel_rfl) hreg_panic (by rfl) hHeld ?_
              apply Exists.intro
              refine ⟨fun w' hw' => ?_, ?_⟩
              · have hf := hall w' hw'
                go_simp
                try go_bits
                exact yieldsV_mk rfl
              simp only [Act.put, List.setIfInBounds_toArray, List.set_cons_zero, List.set_cons_succ]
              refine wpAnyH_ready (rs := [10]) (by kernel_rfl) (by simp) ?_
              refine hreg_event (o := _) rfl (by rfl) (fun K hK => ?_) ?_
              · go_simp
                first
                  | (go_at_call 11; refine (c3.out _ (hLw.out.below hHeld.out)).mono ?_; rintro e wn ⟨rfl, hb⟩)
                  | skip
                refine hK.out _ _ ?_ (fun hHeld' => ?_)
                · first
                    | exact hHeld.next hb
                    | exact hHeld
                    | exact hHeld.alloc _
                    | exact hHeld.setCell (by simp <;> omega) _
                    | exact (hHeld.alloc _).alloc _
                replace hHeld := hHeld'
                clear hHeld' hK K
                simp only [Act.put, List.setIfInBounds_toArray, List.set_cons_zero, List.set_cons_succ]
                refine hreg_take (i := 11) rfl (by kernel_rfl) (by kernel_rfl) (by kernel_rfl) hreg_panic (by rfl) hHeld ?_
                apply Exists.intro
                refine ⟨fun w' hw' => ?_, ?_⟩
                · have hf := hall w' hw'
                  go_simp
                  try go_bits
                  exact yieldsV_mk rfl
                simp only [Act.put, List.setIfInBounds_toArray, List.set_cons_zero, List.set_cons_succ]
                refine hreg_take (i := 12) rfl (by kernel_rfl) (by kernel_rfl) (by kernel_rfl) hreg_panic (by rfl) hHeld ?_
                apply Exists.intro
                refine ⟨fun w' hw' => ?_, ?_⟩
                · have hf := hall w' hw'
                  go_simp
                  try go_bits
                  exact yieldsV_mk rfl
                simp only [Act.put, List.setIfInBounds_toArray, List.set_cons_zero, List.set_cons_succ]
                refine hreg_take (i := 13) rfl (by kernel_rfl) (by kernel_rfl) (by kernel_rfl) hreg_panic (by rfl) hHeld ?_
                apply Exists.intro
                refine ⟨fun w' hw' => ?_, ?_⟩
                · have hf := hall w' hw'
                  go_simp
                  try go_bits
                  exact yieldsV_mk rfl
                simp only [Act.put, List.setIfInBounds_toArray, List.set_cons_zero, List.set_cons_succ]
                refine hreg_take (i := 14) rfl (by kernel_rfl) (by kernel_rfl) (by kernel_rfl) hreg_panic (by rfl) hHeld ?_
                apply Exists.intro
                refine ⟨fun w' hw' => ?_, ?_⟩
                · have hf := hall w' hw'
                  go_simp
                  try go_bits
                  exact yieldsV_mk rfl
                simp only [Act.put, List.setIfInBounds_toArray, List.set_cons_zero, List.set_cons_succ]
                refine hreg_take (i := 15) rfl (by kernel_rfl) (by kernel_rfl) (by kernel_rfl) hreg_panic (by rfl) hHeld ?_
                apply Exists.intro
                refine ⟨fun w' hw' => ?_, ?_⟩
                · have hf := hall w' hw'
                  go_simp
                  try go_bits
                  exact yieldsV_mk rfl
                simp only [Act.put, List.setIfInBounds_toArray, List.set_cons_zero, List.set_cons_succ]
                refine hreg_take (i := 16) rfl (by kernel_rfl) (by kernel_rfl) (by kernel_rfl) hreg_panic (by rfl) hHeld ?_
                apply Exists.intro
                refine ⟨fun w' hw' => ?_, ?_⟩
                · have hf := hall w' hw'
                  go_simp
                  try go_bits
                  exact yieldsV_mk rfl
                simp only [Act.put, List.setIfInBounds_toArray, List.set_cons_zero, List.set_cons_succ]
                refine hreg_take (i := 17) rfl (by kernel_rfl) (by kernel_rfl) (by kernel_rfl) hreg_panic (by rfl) hHeld ?_
                apply Exists.intro
                refine ⟨fun w' hw' => ?_, ?_⟩
                · have hf := hall w' hw'
                  go_simp
                  try go_bits
                  exact yieldsV_mk rfl
                simp only [Act.put, List.setIfInBounds_toArray, List.set_cons_zero, List.set_cons_succ]
                refine hreg_take (i := 18) rfl (by kernel_rfl) (by kernel_rfl) (by kernel_rfl) hreg_panic (by rfl) hHeld ?_
                apply Exists.intro
                refine ⟨fun w' hw' => ?_, ?_⟩
                · have hf := hall w' hw'
                  go_simp
                  try go_bits
                  exact yieldsV_mk rfl
                simp only [Act.put, List.setIfInBounds_toArray, List.set_cons_zero, List.set_cons_succ]
                refine hreg_take (i := 19) rfl (by kernel_rfl) (by kernel_rfl) (by kernel_rfl) hreg_panic (by rfl) hHeld ?_
                apply Exists.intro
                refine ⟨fun w' hw' => ?_, ?_⟩
                · have hf := hall w' hw'
                  go_simp
                  try go_bits
                  exact yieldsV_mk rfl
                simp only [Act.put, List.setIfInBounds_toArray, List.set_cons_zero, List.set_cons_succ]
                refine hreg_take (i := 20) rfl (by kernel_rfl) (by kernel_rfl) (by kernel_rfl) hreg_panic (by rfl) hHeld ?_
                apply Exists.intro
                refine ⟨fun w' hw' => ?_, ?_⟩
                · have hf := hall w' hw'
                  go_simp
                  try go_bits
                  exact yieldsV_mk rfl
                simp only [Act.put, List.setIfInBounds_toArray, List.set_cons_zero, List.set_cons_succ]
                refine hreg_take (i := 21) rfl (by kernel_rfl) (by kernel_rfl) (by kernel_rfl) hreg_panic (by rfl) hHeld ?_
                apply Exists.intro
                refine ⟨fun w' hw' => ?_, ?_⟩
                · have hf := hall w' hw'
                  go_simp
                  try go_bits
                  exact yieldsV_mk rfl
                simp only [Act.put, List.setIfInBounds_toArray, List.set_cons_zero, List.set_cons_succ]
                refine wpAnyH_done (by kernel_rfl) ?_ _
                refine NoPanic.normal ?_
                have bf := hb0.out.trans (hHeld.out.mono hb0.out.size)
                go_wp2
                go_ret
                exact gives_bool rfl bf
              exact AllReadyH.nil
        exact AllReadyH.nil
      exact AllReadyH.nil
    exact AllReadyH.nil
  refine hreg_event (o := _) rfl (by rfl) (fun K hK => ?_) ?_
  · go_simp
    first
      | (obtain ⟨wa, hwa⟩ : ∃ wn, wn = (w1.alloc (.cells (treeC zeroTree).toArray 28)).drew := ⟨_, rfl⟩; have hA : TB wa w1.heap.size zeroTree := by { rw [hwa]; exact heap_alloc_new w1 _ }; have hb : Below w1.heap.size w1 wa := by { rw [hwa]; exact ((Below.refl _ _).alloc (Nat.le_refl _) _).drew }; rw [← hwa]; clear hwa; obtain ⟨tb, htb⟩ : ∃ n, w1.heap.size = n := ⟨_, rfl⟩; rw [htb] at hA ⊢; replace hA := Box.mk hA; replace htb := Box.mk (show w1.heap.size ≤ tb by omega))
      | skip
    refine hK.out _ _ ?_ (fun hHeld' => ?_)
    · first
        | exact ⟨hb⟩
        | exact ⟨below_setCells (by have := htb.out; omega) _ _ _ _ hHeld.out⟩
        | exact hHeld.next hb
        | exact hHeld
        | exact hHeld.alloc _
        | exact hHeld.setCell (by simp <;> omega) _
        | exact (hHeld.alloc _).alloc _
    replace hHeld := hHeld'
    clear hHeld' hK K
    simp only [Act.put, List.setIfInBounds_toArray, List.set_cons_zero, List.set_cons_succ]
    refine wpAnyH_ready (rs := [3]) (by kernel_rfl) (by simp) ?_
    refine hreg_event (o := _) rfl (by rfl) (fun K hK => ?_) ?_
    · go_simp
      first
        | (go_at_call 11; refine (c1.out _ (L1w.out.below hHeld.out)).mono ?_; rintro e wb ⟨rfl, hb⟩; replace hA := Box.mk (hA.out.below hb))
        | skip
      refine hK.out _ _ ?_ (fun hHeld' => ?_)
      · first
          | exact ⟨below_setCells (by have := htb.out; omega) _ _ _ _ hHeld.out⟩
          | exact hHeld.next hb
          | exact hHeld
          | exact hHeld.alloc _
          | exact hHeld.setCell (by simp <;> omega) _
          | exact (hHeld.alloc _).alloc _
      replace hHeld := hHeld'
      clear hHeld' hK K
      simp only [Act.put, List.setIfInBounds_toArray, List.set_cons_zero, List.set_cons_succ]
      refine wpAnyH_ready (rs := [7]) (by kernel_rfl) (by simp) ?_
      refine hreg_event (o := _) rfl (by rfl) (fun K hK => ?_) ?_
      · go_simp
        first
          | (go_at_call 9; refine (c2.out _ (L2w.out.below hHeld.out)).mono ?_; rintro e wz ⟨rfl, hb⟩; replace hA := Box.mk (hA.out.below hb); have hcp := hA.out.can 0 1025 (by omega); have hlt := hA.out.lt; unfold valT)
          | skip
        refine hK.out _ _ ?_ (fun hHeld' => ?_)
        · first
            | exact ⟨below_setCells (by have := htb.out; omega) _ _ _ _ hHeld.out⟩
            | exact hHeld.next hb
            | exact hHeld
            | exact hHeld.alloc _
            | exact hHeld.setCell (by simp <;> omega) _
            | exact (hHeld.alloc _).alloc _
        replace hHeld := hHeld'
        clear hHeld' hK K
        simp only [Act.put, List.setIfInBounds_toArray, List.set_cons_zero, List.set_cons_succ]
        refine hreg_take (i := 8) rfl (by kernel_rfl) (by kernel_rfl) (by kernel_rfl) hreg_panic (by rfl) hHeld ?_
        apply Exists.intro
        refine ⟨fun w' hw' => ?_, ?_⟩
        · have hf := hall w' hw'
          go_simp
          try go_bits
          exact yieldsV_mk rfl
        simp only [Act.put, List.setIfInBounds_toArray, List.set_cons_zero, List.set_cons_succ]
        refine hreg_take (i := 9) rfl (by kernel_rfl) (by kernel_rfl) (by kernel_rfl) hreg_panic (by rfl) hHeld ?_
        apply Exists.intro
        refine ⟨fun w' hw' => ?_, ?_⟩
        · have hf := hall w' hw'
          go_simp
          try go_bits
          exact yieldsV_mk rfl
        simp only [Act.put, List.setIfInBounds_toArray, List.set_cons_zero, List.set_cons_succ]
        refine hreg_take (i := 10) rfl (by kernel_rfl) (by kernel_rfl) (by kernel_rfl) hreg_panic (by rfl) hHeld ?_
        apply Exists.intro
        refine ⟨fun w' hw' => ?_, ?_⟩
        · have hf := hall w' hw'
          go_simp
          try go_bits
          exact yieldsV_mk rfl
        simp only [Act.put, List.setIfInBounds_toArray, List.set_cons_zero, List.set_cons_succ]
        refine wpAnyH_ready (rs := [12]) (by kernel_rfl) (by simp) ?_
        refine hreg_event (o := _) rfl (by rfl) (fun K hK => ?_) ?_
        · go_simp
          first
            | skip
          refine hK.out _ _ ?_ (fun hHeld' => ?_)
          · first
              | exact ⟨below_setCells (by have := htb.out; omega) _ _ _ _ hHeld.out⟩
              | exact hHeld.next hb
              | exact hHeld
              | exact hHeld.alloc _
              | exact hHeld.setCell (by simp <;> omega) _
              | exact (hHeld.alloc _).alloc _
          replace hHeld := hHeld'
          clear hHeld' hK K
          simp only [Act.put, List.setIfInBounds_toArray, List.set_cons_zero, List.set_cons_succ]
          refine hreg_take (i := 13) rfl (by kernel_rfl) (by kernel_rfl) (by kernel_rfl) hreg_panic (by rfl) hHeld ?_
          apply Exists.intro
          refine ⟨fun w' hw' => ?_, ?_⟩
          · have hf := hall w' hw'
            go_simp
            try go_bits
            exact yieldsV_mk rfl
          simp only [Act.put, List.setIfInBounds_toArray, List.set_cons_zero, List.set_cons_succ]
          refine wpAnyH_done (by kernel_rfl) ?_ _
          refine NoPanic.normal ?_
          have hT1 := Box.mk (hA.out.putAll T)
          clear hA hcp hlt
          generalize wz.setCells tb 0 (treeC T) = w3 at *
          have B3 := Box.mk (b1.out.trans (hHeld.out.mono b1.out.size))
          replace hHeld := Box.mk hHeld
          go_wp2_with fail
          refine (c0.out w3).mono ?_
          rintro e w4 ⟨rfl, b4⟩
          have b5 := b4.alloc b4.size (.cells (treeC zeroTree).toArray 28)
          have hU5 : TB (w4.alloc (.cells (treeC zeroTree).toArray 28)) w4.heap.size zeroTree := heap_alloc_new w4 _
          have hT5 := hT1.out.below b5
          have B5 := B3.out.trans (b5.mono B3.out.size)
          have g1 := hT1.out.lt
          have g2 := b4.size
          have g3 := b1.out.size
          have g4 := htb.out
          obtain ⟨ub, hub⟩ : ∃ n, w4.heap.size = n := ⟨_, rfl⟩
          rw [hub] at hU5
          have hlt1 : tb < ub := by omega
          have hlt2 : W.heap.size ≤ tb := by omega
          clear g1 g2 g3 g4
          replace hlt1 := Box.mk hlt1
          replace hlt2 := Box.mk hlt2
          replace b4 := Box.mk b4
          replace b5 := Box.mk b5
          replace hU5 := Box.mk hU5
          replace hT5 := Box.mk hT5
          replace B5 := Box.mk B5
          go_wp2_with fail
          generalize w4.alloc (.cells (treeC zeroTree).toArray 28) = w5 at *
          replace hub := Box.mk hub
          go_loopw [9] (fun i wr => Below W.heap.size W wr ∧ ∃ j : Nat, j ≤ l.length ∧ i = .int .i64 j ∧ TB wr tb T ∧ TB wr ub (putsT zeroTree (l.take j))) (fun i _ => l.length - (intOf i).toNat)
          case atStart => exact ⟨B5.out, 0, Nat.zero_le _, rfl, hT5.out, hU5.out⟩
          case round =>
            obtain ⟨hb0, j, hj, rfl, hTw, hUw⟩ := hrel
            clear hall
            by_cases hlt : j < l.length
            · have hlt' : (j : Int) < l.length := by omega
              obtain ⟨x, hx⟩ : ∃ x, l[j]? = some x := ⟨_, List.getElem?_eq_getElem hlt⟩
              obtain ⟨bk, o, hae, hbk, hr⟩ := h.out.at hx
              have R1 : rowOf wr bk (o + j * 32) 32 = some (keyC x) := by rw [rowOf_congr (hb0.block bk hbk)]; exact hr
              have hbkw : bk < wr.heap.size := Nat.lt_of_lt_of_le hbk hb0.size
              have hnext : putsT zeroTree (l.take (j + 1)) = putT (putsT zeroTree (l.take j)) x := by rw [List.take_add_one, hx]; exact putsT_snoc _ _ _
              have hcnt : (putsT zeroTree (l.take j)).count = j := by rw [putsT_count, List.length_take]; show 0 + _ = _; omega
              have c4 := fun w => append_any (putsT zeroTree (l.take j)) x w (by rw [hcnt]; omega)
              have hcn2 := putT_count (putsT zeroTree (l.take j)) x
              rw [hcnt] at hcn2
              rw [← hnext] at c4 hcn2
              obtain ⟨u2, hu2⟩ : ∃ t, putsT zeroTree (l.take (j + 1)) = t := ⟨_, rfl⟩
              rw [hu2] at c4 hcn2 hnext
              replace hu2 := Box.mk hu2
              generalize putsT zeroTree (l.take j) = u at *
              replace hnext := Box.mk hnext
              replace hcnt := Box.mk hcnt
              replace hcn2 := Box.mk hcn2
              have rU := hUw.row
              have lU := hUw.lt
              subst hae
              have hall : ∀ w', SinceP wr w' → (rowOf w' ub 0 1025 = some (treeC u) ∧ ub < w'.heap.size ∧ rowOf w' bk (o + j * 32) 32 = some (keyC x) ∧ bk < w'.heap.size) := fun w' hw => by
                have hzz := hw.out.size
                exact ⟨(rowOf_congr (hw.out.block ub lU) _ _).trans rU, by omega, (rowOf_congr (hw.out.block bk hbkw) _ _).trans R1, by omega⟩
              clear rU lU R1 hbkw
              have hj32 : (j : Int) % 4294967296 = j := by omega
              have hj33 : ((j : Int) + 1) % 4294967296 = j + 1 := by omega
              replace h := Box.mk h.out
              replace hx := Box.mk hx
              replace hr := Box.mk hr
              replace hb0 := Box.mk hb0
              replace hTw := Box.mk hTw
              replace hUw := Box.mk hUw
              replace c4 := Box.mk c4
              replace hbk := Box.mk hbk
              go_wp2_with fail
              refine hreg_begin (S := SinceP wr) (by kernel_rfl) (SinceP.refl _).drew (fun hHeld => ?_)
              simp only [List.length_cons, List.length_nil, Nat.zero_add, Nat.reduceAdd, Array.replicate]
              refine hreg_take (i := 0) rfl (by kernel_rfl) (by kernel_rfl) (by kernel_rfl) hreg_panic (by rfl) hHeld ?_
              apply Exists.intro
              refine ⟨fun w' hw' => ?_, ?_⟩
              · have hf := hall w' hw'
                go_simp
                try go_bits
                exact yieldsV_mk rfl
              simp only [Act.put, List.setIfInBounds_toArray, List.set_cons_zero, List.set_cons_succ]
              refine hreg_take (i := 1) rfl (by kernel_rfl) (by kernel_rfl) (by kernel_rfl) hreg_panic (by rfl) hHeld ?_
              apply Exists.intro
              refine ⟨fun w' hw' => ?_, ?_⟩
              · have hf := hall w' hw'
                go_simp
                try go_bits
                exact yieldsV_mk rfl
              simp only [Act.put, List.setIfInBounds_toArray, List.set_cons_zero, List.set_cons_succ]
              refine hreg_take (i := 2) rfl (by kernel_rfl) (by kernel_rfl) (by kernel_rfl) hreg_panic (by rfl) hHeld ?_
              apply Exists.intro
              refine ⟨fun w' hw' => ?_, ?_⟩
              · have hf := hall w' hw'
                go_simp
                try go_bits
                exact yieldsV_mk rfl
              simp only [Act.put, List.setIfInBounds_toArray, List.set_cons_zero, List.set_cons_succ]
              refine hreg_take (i := 3) rfl (by kernel_rfl) (by kernel_rfl) (by kernel_rfl) hreg_panic (by rfl) hHeld ?_
              apply Exists.intro
              refine ⟨fun w' hw' => ?_, ?_⟩
              · have hf := hall w' hw'
                go_simp
                try go_bits
                exact yieldsV_mk rfl
              simp only [Act.put, List.setIfInBounds_toArray, List.set_cons_zero, List.set_cons_succ]
              refine hreg_take (i := 4) rfl (by kernel_rfl) (by kernel_rfl) (by kernel_rfl) hreg_panic (by rfl) hHeld ?_
              apply Exists.intro
              refine ⟨fun w' hw' => ?_, ?_⟩
              · have hf := hall w' hw'
                go_simp
                try go_bits
                exact yieldsV_mk rfl
              simp only [Act.put, List.setIfInBounds_toArray, List.set_cons_zero, List.set_cons_succ]
              refine wpAnyH_ready (rs := [5, 9]) (by kernel_rfl) (by simp) ?_
              refine hreg_event (o := _) rfl (by rfl) (fun K hK => ?_) ?_
              · go_simp
                first
                  | (go_at_call 8; refine (c4.out _).mono ?_; rintro e wc ⟨rfl, hb⟩; unfold valT)
                  | skip
                refine hK.out _ _ ?_ (fun hHeld' => ?_)
                · first
                    | exact ⟨below_setCells (by have := hvb.out; omega) _ _ _ _ hHeld.out⟩
                    | exact hHeld.next hb
                    | exact hHeld
                    | exact hHeld.alloc _
                    | exact hHeld.setCell (by simp <;> omega) _
                    | exact (hHeld.alloc _).alloc _
                replace hHeld := hHeld'
                clear hHeld' hK K
                simp only [Act.put, List.setIfInBounds_toArray, List.set_cons_zero, List.set_cons_succ]
                refine hreg_take (i := 6) rfl (by kernel_rfl) (by kernel_rfl) (by kernel_rfl) hreg_panic (by rfl) hHeld ?_
                apply Exists.intro
                refine ⟨fun w' hw' => ?_, ?_⟩
                · have hf := hall w' hw'
                  go_simp
                  try go_bits
                  exact yieldsV_mk rfl
                simp only [Act.put, List.setIfInBounds_toArray, List.set_cons_zero, List.set_cons_succ]
                refine hreg_take (i := 7) rfl (by kernel_rfl) (by kernel_rfl) (by kernel_rfl) hreg_panic (by rfl) hHeld ?_
                apply Exists.intro
                refine ⟨fun w' hw' => ?_, ?_⟩
                · have hf := hall w' hw'
                  go_simp
                  try go_bits
                  exact yieldsV_mk rfl
                simp only [Act.put, List.setIfInBounds_toArray, List.set_cons_zero, List.set_cons_succ]
                refine hreg_take (i := 8) rfl (by kernel_rfl) (by kernel_rfl) (by kernel_rfl) hreg_panic (by rfl) hHeld ?_
                apply Exists.intro
                refine ⟨fun w' hw' => ?_, ?_⟩
                · have hf := hall w' hw'
                  go_simp
                  try go_bits
                  exact yieldsV_mk rfl
                simp only [Act.put, List.setIfInBounds_toArray, List.set_cons_zero, List.set_cons_succ]
                refine wpAnyH_ready (rs := [9]) (by kernel_rfl) (by simp) ?_
                refine hreg_event (o := _) rfl (by rfl) (fun K hK => ?_) ?_
                · go_simp
                  first
                    | (obtain ⟨wz, hwz⟩ : ∃ wn, wn = wc.alloc (.cells (treeC zeroTree).toArray 28) := ⟨_, rfl⟩; have hA : TB wz wc.heap.size zeroTree := by { rw [hwz]; exact heap_alloc_new wc _ }; have hb : Below wc.heap.size wc wz := by { rw [hwz]; exact (Below.refl _ _).alloc (Nat.le_refl _) _ }; rw [← hwz]; clear hwz; obtain ⟨vb, hvb⟩ : ∃ n, wc.heap.size = n := ⟨_, rfl⟩; rw [hvb] at hA ⊢; replace hA := Box.mk hA; replace hvb := Box.mk (show wr.heap.size ≤ vb by { have := hHeld.out.size; omega }); have hcp := hA.out.can 0 1025 (by omega); have hlt := hA.out.lt)
                    | skip
                  refine hK.out _ _ ?_ (fun hHeld' => ?_)
                  · first
                      | exact ⟨below_setCells (by have := hvb.out; omega) _ _ _ _ hHeld.out⟩
                      | exact hHeld.next hb
                      | exact hHeld
                      | exact hHeld.alloc _
                      | exact hHeld.setCell (by simp <;> omega) _
                      | exact (hHeld.alloc _).alloc _
                  replace hHeld := hHeld'
                  clear hHeld' hK K
                  simp only [Act.put, List.setIfInBounds_toArray, List.set_cons_zero, List.set_cons_succ]
                  refine wpAnyH_ready (rs := [10]) (by kernel_rfl) (by simp) ?_
                  refine hreg_event (o := _) rfl (by rfl) (fun K hK => ?_) ?_
                  · go_simp
                    first
                      | skip
                    refine hK.out _ _ ?_ (fun hHeld' => ?_)
                    · first
                        | exact ⟨below_setCells (by have := hvb.out; omega) _ _ _ _ hHeld.out⟩
                        | exact hHeld.next hb
                        | exact hHeld
                        | exact hHeld.alloc _
                        | exact hHeld.setCell (by simp <;> omega) _
                        | exact (hHeld.alloc _).alloc _
                    replace hHeld := hHeld'
                    clear hHeld' hK K
                    simp only [Act.put, List.setIfInBounds_toArray, List.set_cons_zero, List.set_cons_succ]
                    refine hreg_take (i := 11) rfl (by kernel_rfl) (by kernel_rfl) (by kernel_rfl) hreg_panic (by rfl) hHeld ?_
                    apply Exists.intro
                    refine ⟨fun w' hw' => ?_, ?_⟩
                    · have hf := hall w' hw'
                      go_simp
                      try go_bits
                      exact yieldsV_mk rfl
                    simp only [Act.put, List.setIfInBounds_toArray, List.set_cons_zero, List.set_cons_succ]
                    refine wpAnyH_done (by kernel_rfl) ?_ _
                    refine NoPanic.normal ?_
                    have hV1 := Box.mk (hA.out.putAll u2)
                    clear hA hcp hlt
                    generalize wz.setCells vb 0 (treeC u2) = wv at *
                    clear hall
                    have Bv := Box.mk (hb0.out.trans (hHeld.out.mono hb0.out.size))
                    have hT9 := hTw.out.below hHeld.out
                    have hU9 := hUw.out.below hHeld.out
                    have g1 := hUw.out.lt
                    obtain ⟨e1, e2⟩ := hV1.out.count
                    rw [hcn2.out, Int.natCast_add, Int.natCast_one] at e1
                    have e3 := hV1.out.row
                    have e4 := hV1.out.lt
                    have e5 := hU9.lt
                    have e6 := hU9.can 0 1025 (by omega)
                    have hU10 := Box.mk (hU9.putAll u2)
                    have hT10 : Box (TB (wv.setCells ub 0 (treeC u2)) tb T) := Box.mk ((setCells_ne (by have := hlt1.out; omega) _ _).trans hT9)
                    have B10 := Box.mk (below_setCells (B := W.heap.size) (b := ub) (by have := hlt1.out; have := hlt2.out; omega) (treeC u2) 0 _ _ Bv.out)
                    replace hHeld := Box.mk hHeld
                    replace hT9 := Box.mk hT9
                    replace hU9 := Box.mk hU9
                    replace g1 := Box.mk g1
                    go_wp2
                    go_roundw
                    case rel => exact ⟨B10.out, j + 1, by omega, by go_num, hT10.out, by rw [hu2.out]; exact hU10.out⟩
                    case measure => simp [intOf]; omega
                  exact AllReadyH.nil
                exact AllReadyH.nil
              refine hreg_event (o := _) rfl (by rfl) (fun K hK => ?_) ?_
              · go_simp
                first
                  | (obtain ⟨wa, hwa⟩ : ∃ wn, wn = (wr.alloc (.cells (treeC zeroTree).toArray 28)).drew := ⟨_, rfl⟩; have hA : TB wa wr.heap.size zeroTree := by { rw [hwa]; exact heap_alloc_new wr _ }; have hb : Below wr.heap.size wr wa := by { rw [hwa]; exact ((Below.refl _ _).alloc (Nat.le_refl _) _).drew }; rw [← hwa]; clear hwa; obtain ⟨vb, hvb⟩ : ∃ n, wr.heap.size = n := ⟨_, rfl⟩; rw [hvb] at hA ⊢; replace hA := Box.mk hA; replace hvb := Box.mk (show wr.heap.size ≤ vb by omega))
                  | skip
                refine hK.out _ _ ?_ (fun hHeld' => ?_)
                · first
                    | exact ⟨hb⟩
                    | exact ⟨below_setCells (by have := hvb.out; omega) _ _ _ _ hHeld.out⟩
                    | exact hHeld.next hb
                    | exact hHeld
                    | exact hHeld.alloc _
                    | exact hHeld.setCell (by simp <;> omega) _
                    | exact (hHeld.alloc _).alloc _
                replace hHeld := hHeld'
                clear hHeld' hK K
                simp only [Act.put, List.setIfInBounds_toArray, List.set_cons_zero, List.set_cons_succ]
                refine wpAnyH_ready (rs := [5]) (by kernel_rfl) (by simp) ?_
                refine hreg_event (o := _) rfl (by rfl) (fun K hK => ?_) ?_
                · go_simp
                  first
                    | (go_at_call 8; refine (c4.out _).mono ?_; rintro e wz ⟨rfl, hb⟩; replace hA := Box.mk (hA.out.below hb); have hcp := hA.out.can 0 1025 (by omega); have hlt := hA.out.lt; unfold valT)
                    | skip
                  refine hK.out _ _ ?_ (fun hHeld' => ?_)
                  · first
                      | exact ⟨below_setCells (by have := hvb.out; omega) _ _ _ _ hHeld.out⟩
                      | exact hHeld.next hb
                      | exact hHeld
                      | exact hHeld.alloc _
                      | exact hHeld.setCell (by simp <;> omega) _
                      | exact (hHeld.alloc _).alloc _
                  replace hHeld := hHeld'
                  clear hHeld' hK K
                  simp only [Act.put, List.setIfInBounds_toArray, List.set_cons_zero, List.set_cons_succ]
                  refine hreg_take (i := 6) rfl (by kernel_rfl) (by kernel_rfl) (by kernel_rfl) hreg_panic (by rfl) hHeld ?_
                  apply Exists.intro
                  refine ⟨fun w' hw' => ?_, ?_⟩
                  · have hf := hall w' hw'
                    go_simp
                    try go_bits
                    exact yieldsV_mk rfl
                  simp only [Act.put, List.setIfInBounds_toArray, List.set_cons_zero, List.set_cons_succ]
                  refine hreg_take (i := 7) rfl (by kernel_rfl) (by kernel_rfl) (by kernel_rfl) hreg_panic (by rfl) hHeld ?_
                  apply Exists.intro
                  refine ⟨fun w' hw' => ?_, ?_⟩
                  · have hf := hall w' hw'
                    go_simp
                    try go_bits
                    exact yieldsV_mk rfl
                  simp only [Act.put, List.setIfInBounds_toArray, List.set_cons_zero, List.set_cons_succ]
                  refine hreg_take (i := 8) rfl (by kernel_rfl) (by kernel_rfl) (by kernel_rfl) hreg_panic (by rfl) hHeld ?_
                  apply Exists.intro
                  refine ⟨fun w' hw' => ?_, ?_⟩
                  · have hf := hall w' hw'
                    go_simp
                    try go_bits
                    exact yieldsV_mk rfl
                  simp only [Act.put, List.setIfInBounds_toArray, List.set_cons_zero, List.set_cons_succ]
                  refine wpAnyH_ready (rs := [10]) (by kernel_rfl) (by simp) ?_
                  refine hreg_event (o := _) rfl (by rfl) (fun K hK => ?_) ?_
                  · go_simp
                    first
                      | skip
                    refine hK.out _ _ ?_ (fun hHeld' => ?_)
                    · first
                        | exact ⟨below_setCells (by have := hvb.out; omega) _ _ _ _ hHeld.out⟩
                        | exact hHeld.next hb
                        | exact hHeld
                        | exact hHeld.alloc _
                        | exact hHeld.setCell (by simp <;> omega) _
                        | exact (hHeld.alloc _).alloc _
                    replace hHeld := hHeld'
                    clear hHeld' hK K
                    simp only [Act.put, List.setIfInBounds_toArray, List.set_cons_zero, List.set_cons_succ]
                    refine hreg_take (i := 11) rfl (by kernel_rfl) (by kernel_rfl) (by kernel_rfl) hreg_panic (by rfl) hHeld ?_
                    apply Exists.intro
                    refine ⟨fun w' hw' => ?_, ?_⟩
                    · have hf := hall w' hw'
                      go_simp
                      try go_bits
                      exact yieldsV_mk rfl
                    simp only [Act.put, List.setIfInBounds_toArray, List.set_cons_zero, List.set_cons_succ]
                    refine wpAnyH_done (by kernel_rfl) ?_ _
                    refine NoPanic.normal ?_
                    have hV1 := Box.mk (hA.out.putAll u2)
                    clear hA hcp hlt
                    generalize wz.setCells vb 0 (treeC u2) = wv at *
                    clear hall
                    have Bv := Box.mk (hb0.out.trans (hHeld.out.mono hb0.out.size))
                    have hT9 := hTw.out.below hHeld.out
                    have hU9 := hUw.out.below hHeld.out
                    have g1 := hUw.out.lt
                    obtain ⟨e1, e2⟩ := hV1.out.count
                    rw [hcn2.out, Int.natCast_add, Int.natCast_one] at e1
                    have e3 := hV1.out.row
                    have e4 := hV1.out.lt
                    have e5 := hU9.lt
                    have e6 := hU9.can 0 1025 (by omega)
                    have hU10 := Box.mk (hU9.putAll u2)
                    have hT10 : Box (TB (wv.setCells ub 0 (treeC u2)) tb T) := Box.mk ((setCells_ne (by have := hlt1.out; omega) _ _).trans hT9)
                    have B10 := Box.mk (below_setCells (B := W.heap.size) (b := ub) (by have := hlt1.out; have := hlt2.out; omega) (treeC u2) 0 _ _ Bv.out)
                    replace hHeld := Box.mk hHeld
                    replace hT9 := Box.mk hT9
                    replace hU9 := Box.mk hU9
                    replace g1 := Box.mk g1
                    go_wp2
                    go_roundw
                    case rel => exact ⟨B10.out, j + 1, by omega, by go_num, hT10.out, by rw [hu2.out]; exact hU10.out⟩
                    case measure => simp [intOf]; omega
                  exact AllReadyH.nil
                exact AllReadyH.nil
              exact AllReadyH.nil
            · obtain rfl : j = l.length := by omega
              rw [List.take_length, hT.out] at hUw
              have rT := hTw.row
              have rU := hUw.row
              have lT := hTw.lt
              have lU := hUw.lt
              obtain ⟨e1, e2⟩ := hTw.count
              rw [hTc.out] at e1
              have hall : ∀ w', SinceP wr w' → (rowOf w' ub 0 1025 = some (treeC T) ∧ ub < w'.heap.size ∧ rowOf w' tb 0 1025 = some (treeC T) ∧ tb < w'.heap.size ∧ w'.cell? ⟨tb, 0, none⟩ = some (.int .u32 l.length)) := fun w' hw => by
                have hzz := hw.out.size
                exact ⟨(rowOf_congr (hw.out.block ub lU) _ _).trans rU, by omega, (rowOf_congr (hw.out.block tb lT) _ _).trans rT, by omega, (hw.out.cell (p := ⟨tb, 0, none⟩) lT).trans e1⟩
              clear rT rU lT lU e1 e2
              have hLw := Box.mk (h.out.below hb0)
              replace hb0 := Box.mk hb0
              replace hTw := Box.mk hTw
              replace hUw := Box.mk hUw
              go_wp2_with fail
              refine hreg_begin (S := SinceP wr) (by kernel_rfl) (SinceP.refl _).drew (fun hHeld => ?_)
              simp only [List.length_cons, List.length_nil, Nat.zero_add, Nat.reduceAdd, Array.replicate]
              refine hreg_take (i := 0) rfl (by kernel_rfl) (by kernel_rfl) (by kernel_rfl) hreg_panic (by rfl) hHeld ?_
              apply Exists.intro
              refine ⟨fun w' hw' => ?_, ?_⟩
              · have hf := hall w' hw'
                go_simp
                try go_bits
                exact yieldsV_mk rfl
              simp only [Act.put, List.setIfInBounds_toArray, List.set_cons_zero, List.set_cons_succ]
              refine hreg_take (i := 1) rfl (by kernel_rfl) (by kernel_rfl) (by kernel_rfl) hreg_panic (by rfl) hHeld ?_
              apply Exists.intro
              refine ⟨fun w' hw' => ?_, ?_⟩
              · have hf := hall w' hw'
                go_simp
                try go_bits
                exact yieldsV_mk rfl
              simp only [Act.put, List.setIfInBounds_toArray, List.set_cons_zero, List.set_cons_succ]
              refine hreg_take (i := 2) rfl (by kernel_rfl) (by kernel_rfl) (by kernel_rfl) hreg_panic (by rfl) hHeld ?_
              apply Exists.intro
              refine ⟨fun w' hw' => ?_, ?_⟩
              · have hf := hall w' hw'
                go_simp
                try go_bits
                exact yieldsV_mk rfl
              simp only [Act.put, List.setIfInBounds_toArray, List.set_cons_zero, List.set_cons_succ]
              refine hreg_take (i := 3) rfl (by kernel_rfl) (by kernel_rfl) (by kernel_rfl) hreg_panic (by rfl) hHeld ?_
              apply Exists.intro
              refine ⟨fun w' hw' => ?_, ?_⟩
              · have hf := hall w' hw'
                go_simp
                try go_bits
                exact yieldsV_mk rfl
              simp only [Act.put, List.setIfInBounds_toArray, List.set_cons_zero, List.set_cons_succ]
              refine hreg_take (i := 4) rfl (by kernel_rfl) (by kernel_rfl) (by kernel_rfl) hreg_panic (by rfl) hHeld ?_
              apply Exists.intro
              refine ⟨fun w' hw' => ?_, ?_⟩
              · have hf := hall w' hw'
                go_simp
                try go_bits
                exact yieldsV_mk rfl
              simp only [Act.put, List.setIfInBounds_toArray, List.set_cons_zero, List.set_cons_succ]
              refine hreg_take (i := 5) rfl (by kernel_rfl) (by kernel_rfl) (by kernel_rfl) hreg_panic (by rfl) hHeld ?_
              apply Exists.intro
              refine ⟨fun w' hw' => ?_, ?_⟩
              · have hf := hall w' hw'
                go_simp
                try go_bits
                exact yieldsV_mk rfl
              simp only [Act.put, List.setIfInBounds_toArray, List.set_cons_zero, List.set_cons_succ]
              refine hreg_take (i := 6) rfl (by kernel_rfl) (by kernel_rfl) (by kernel_rfl) hreg_panic (by rfl) hHeld ?_
              apply Exists.intro
              refine ⟨fun w' hw' => ?_, ?_⟩
              · have hf := hall w' hw'
                go_simp
                try go_bits
                exact yieldsV_mk rfl
              simp only [Act.put, List.setIfInBounds_toArray, List.set_cons_zero, List.set_cons_succ]
              refine hreg_take (i := 7) rfl (by kernel_rfl) (by kernel_rfl) (by kernel_rfl) hreg_panic (by rfl) hHeld ?_
              apply Exists.intro
              refine ⟨fun w' hw' => ?_, ?_⟩
              · have hf := hall w' hw'
                go_simp
                try go_bits
                exact yieldsV_mk rfl
              simp only [Act.put, List.setIfInBounds_toArray, List.set_cons_zero, List.set_cons_succ]
              refine hreg_take (i := 8) rfl (by kernel_rfl) (by kernel_rfl) (by kernel_rfl) hreg_panic (by rfl) hHeld ?_
              apply Exists.intro
              refine ⟨fun w' hw' => ?_, ?_⟩
              · have hf := hall w' hw'
                go_simp
                try go_bits
                exact yieldsV_mk rfl
              simp only [Act.put, List.setIfInBounds_toArray, List.set_cons_zero, List.set_cons_succ]
              refine hreg_take (i := 9) rfl (by kernel_rfl) (by kernel_rfl) (by kernel_rfl) hreg_panic (by rfl) hHeld ?_
              apply Exists.intro
              refine ⟨fun w' hw' => ?_, ?_⟩
              · have hf := hall w' hw'
                go_simp
                try go_bits
                exact yieldsV_mk rfl
              simp only [Act.put, List.setIfInBounds_toArray, List.set_cons_zero, List.set_cons_succ]
              refine wpAnyH_ready (rs := [10]) (by kernel_rfl) (by simp) ?_
              refine hreg_event (o := _) rfl (by rfl) (fun K hK => ?_) ?_
              · go_simp
                first
                  | (go_at_call 11; refine (c3.out _ (hLw.out.below hHeld.out)).mono ?_; rintro e wn ⟨rfl, hb⟩)
                  | skip
                refine hK.out _ _ ?_ (fun hHeld' => ?_)
                · first
                    | exact hHeld.next hb
                    | exact hHeld
                    | exact hHeld.alloc _
                    | exact hHeld.setCell (by simp <;> omega) _
                    | exact (hHeld.alloc _).alloc _
                replace hHeld := hHeld'
                clear hHeld' hK K
                simp only [Act.put, List.setIfInBounds_toArray, List.set_cons_zero, List.set_cons_succ]
                refine hreg_take (i := 11) rfl (by kernel_rfl) (by kernel_rfl) (by kernel_rfl) hreg_panic (by rfl) hHeld ?_
                apply Exists.intro
                refine ⟨fun w' hw' => ?_, ?_⟩
                · have hf := hall w' hw'
                  go_simp
                  try go_bits
                  exact yieldsV_mk rfl
                simp only [Act.put, List.setIfInBounds_toArray, List.set_cons_zero, List.set_cons_succ]
                refine hreg_take (i := 12) rfl (by kernel_rfl) (by kernel_rfl) (by kernel_rfl) hreg_panic (by rfl) hHeld ?_
                apply Exists.intro
                refine ⟨fun w' hw' => ?_, ?_⟩
                · have hf := hall w' hw'
                  go_simp
                  try go_bits
                  exact yieldsV_mk rfl
                simp only [Act.put, List.setIfInBounds_toArray, List.set_cons_zero, List.set_cons_succ]
                refine hreg_take (i := 13) rfl (by kernel_rfl) (by kernel_rfl) (by kernel_rfl) hreg_panic (by rfl) hHeld ?_
                apply Exists.intro
                refine ⟨fun w' hw' => ?_, ?_⟩
                · have hf := hall w' hw'
                  go_simp
                  try go_bits
                  exact yieldsV_mk rfl
                simp only [Act.put, List.setIfInBounds_toArray, List.set_cons_zero, List.set_cons_succ]
                refine hreg_take (i := 14) rfl (by kernel_rfl) (by kernel_rfl) (by kernel_rfl) hreg_panic (by rfl) hHeld ?_
                apply Exists.intro
                refine ⟨fun w' hw' => ?_, ?_⟩
                · have hf := hall w' hw'
                  go_simp
                  try go_bits
                  exact yieldsV_mk rfl
                simp only [Act.put, List.setIfInBounds_toArray, List.set_cons_zero, List.set_cons_succ]
                refine hreg_take (i := 15) rfl (by kernel_rfl) (by kernel_rfl) (by kernel_rfl) hreg_panic (by rfl) hHeld ?_
                apply Exists.intro
                refine ⟨fun w' hw' => ?_, ?_⟩
                · have hf := hall w' hw'
                  go_simp
                  try go_bits
                  exact yieldsV_mk rfl
                simp only [Act.put, List.setIfInBounds_toArray, List.set_cons_zero, List.set_cons_succ]
                refine hreg_take (i := 16) rfl (by kernel_rfl) (by kernel_rfl) (by kernel_rfl) hreg_panic (by rfl) hHeld ?_
                apply Exists.intro
                refine ⟨fun w' hw' => ?_, ?_⟩
                · have hf := hall w' hw'
                  go_simp
                  try go_bits
                  exact yieldsV_mk rfl
                simp only [Act.put, List.setIfInBounds_toArray, List.set_cons_zero, List.set_cons_succ]
                refine hreg_take (i := 17) rfl (by kernel_rfl) (by kernel_rfl) (by kernel_rfl) hreg_panic (by rfl) hHeld ?_
                apply Exists.intro
                refine ⟨fun w' hw' => ?_, ?_⟩
                · have hf := hall w' hw'
                  go_simp
                  try go_bits
                  exact yieldsV_mk rfl
                simp only [Act.put, List.setIfInBounds_toArray, List.set_cons_zero, List.set_cons_succ]
                refine hreg_take (i := 18) rfl (by kernel_rfl) (by kernel_rfl) (by kernel_rfl) hreg_panic (by rfl) hHeld ?_
                apply Exists.intro
                refine ⟨fun w' hw' => ?_, ?_⟩
                · have hf := hall w' hw'
                  go_simp
                  try go_bits
                  exact yieldsV_mk rfl
                simp only [Act.put, List.setIfInBounds_toArray, List.set_cons_zero, List.set_cons_succ]
                refine hreg_take (i := 19) rfl (by kernel_rfl) (by kernel_rfl) (by kernel_rfl) hreg_panic (by rfl) hHeld ?_
                apply Exists.intro
                refine ⟨fun w' hw' => ?_, ?_⟩
                · have hf := hall w' hw'
                  go_simp
                  try go_bits
                  exact yieldsV_mk rfl
                simp only [Act.put, List.setIfInBounds_toArray, List.set_cons_zero, List.set_cons_succ]
                refine hreg_take (i := 20) rfl (by kernel_rfl) (by kernel_rfl) (by kernel_rfl) hreg_panic (by rfl) hHeld ?_
                apply Exists.intro
                refine ⟨fun w' hw' => ?_, ?_⟩
                · have hf := hall w' hw'
                  go_simp
                  try go_bits
                  exact yieldsV_mk rfl
                simp only [Act.put, List.setIfInBounds_toArray, List.set_cons_zero, List.set_cons_succ]
                refine hreg_take (i := 21) rfl (by kernel_rfl) (by kernel_rfl) (by kernel_rfl) hreg_panic (by rfl) hHeld ?_
                apply Exists.intro
                refine ⟨fun w' hw' => ?_, ?_⟩
                · have hf := hall w' hw'
                  go_simp
                  try go_bits
                  exact yieldsV_mk rfl
                simp only [Act.put, List.setIfInBounds_toArray, List.set_cons_zero, List.set_cons_succ]
                refine wpAnyH_done (by kernel_rfl) ?_ _
                refine NoPanic.normal ?_
                have bf := hb0.out.trans (hHeld.out.mono hb0.out.size)
                go_wp2
                go_ret
                exact gives_bool rfl bf
              exact AllReadyH.nil
        exact AllReadyH.nil
      exact AllReadyH.nil
    exact AllReadyH.nil
  exact AllReadyH.nil
end Go.Proofs.Ytabikhmaiennpaa
