/- Layer 8: just the last four roots of all that were put are there. -/
import Derived.Test.YtpgaibihfplhcaaAnchorOld
import Derived.Test.YtpgaibihfplhcaaKeys3
namespace Go.Proofs.Ytpgaibihfplhcaa
open Go.RowKit
set_option linter.unusedVariables false
set_option linter.unusedSimpArgs false
attribute [local go_sem ↓] load_key store_key alloc_key build0_key one_key make_key copy_key append_key eq_key build1_key build2_key
attribute [local go_sem] rowOf_drew rowOf_alloc_old rowOf_alloc_new canPut_drew canPut_alloc_old canPut_alloc_new setCells_alloc_new

theorem RingAt.grown {b : Nat} {w w' : World} {a : Option Addr} {n c : Nat} {L : List Key} {row : Option Nat} (h : RingAt b w a n c L) (hg : w.grownBy w' row) (hb : some b ≠ row) (ha : ∀ x, a = some x → some x.block ≠ row) : RingAt b w' a n c L :=
  ⟨Nat.lt_of_lt_of_le h.lt hg.size, by rw [World.cell?_of_block (a := ⟨b, 0, none⟩) (hg.block b h.lt hb)]; exact h.cell, by rw [World.frozen?_of_block (a := ⟨b, 0, none⟩) (hg.block b h.lt hb)]; exact h.frozen, SL.grown h.keys hg ha, h.apart⟩

theorem KS.block_lt {w : World} {a : Option Addr} {n c : Nat} {L : List Key} (h : KS w a n c L) (hne : L ≠ []) : ∀ x, a = some x → x.block < w.heap.size := by
  obtain ⟨b, o, rfl, hb, _⟩ := h.2.2.2.2 hne
  intro x hx
  injection hx with hx
  subst hx
  exact hb
theorem putL_ne (l : List Key) (k : Key) : putL l k ≠ [] := by
  intro h
  have := congrArg List.length h
  unfold putL at this
  rw [lastN_length, List.length_append] at this
  simp at this
  omega

/-- The ring and the list of all, as the two loops begin. -/
structure Both (rb : Nat) (w : World) (a : Option Addr) (n c g cg : Nat) (X : List Key) : Prop where
  ring : RingAt rb w a n c (ringL X)
  all : KOwn w (rb + 1) (.slice (some ⟨g, 0, none⟩) X.length cg) X
  apart : ∀ x, a = some x → x.block ≠ g
  lt : ∀ x, a = some x → x.block < w.heap.size
theorem Both.g_lt {rb : Nat} {w : World} {a : Option Addr} {n c g cg : Nat} {X : List Key} (h : Both rb w a n c g cg X) : rb + 1 ≤ g ∧ g < w.heap.size := by
  rcases h.all.form with ⟨h1, _⟩ | ⟨g', _, h1, h2, h3⟩
  · cases h1
  · injection h1 with h1; injection h1 with h1; injection h1 with h1; subst h1; exact ⟨h2, h3⟩
theorem Both.below {rb : Nat} {w w' : World} {a : Option Addr} {n c g cg : Nat} {X : List Key} (h : Both rb w a n c g cg X) (hb : Below w.heap.size w w') : Both rb w' a n c g cg X :=
  ⟨h.ring.below hb, h.all.below hb, h.apart, fun x hx => Nat.lt_of_lt_of_le (h.lt x hx) hb.size⟩
/-- One root more: the ring is stored, then the list grows. -/
theorem Both.put {rb : Nat} {w wn : World} {a a' : Option Addr} {n c n' c' g cg : Nat} {X : List Key} {x : Key} (h : Both rb w a n c g cg X) (hb : Below w.heap.size w wn) (hk : KS wn a' n' c' (putL (ringL X) x)) (hf : Fresh w.heap.size a') :
    RingAt rb (wn.setCell ⟨rb, 0, none⟩ (.slice a' n' c')) a' n' c' (ringL (X ++ [x])) ∧ KOwn (wn.setCell ⟨rb, 0, none⟩ (.slice a' n' c')) (rb + 1) (.slice (some ⟨g, 0, none⟩) X.length cg) X ∧ (∀ y, a' = some y → y.block ≠ g) ∧ (∀ y, a' = some y → y.block < (wn.setCell ⟨rb, 0, none⟩ (.slice a' n' c')).heap.size) := by
  refine ⟨?_, (h.all.below hb).setBelow (Nat.lt_succ_self _) _, fun y hy => ?_, fun y hy => ?_⟩
  · have := h.ring.store hb hk hf
    rw [putL_ringL] at this
    exact this
  · have := hf y hy
    have := h.g_lt
    omega
  · have := KS.block_lt hk (putL_ne _ _) y hy
    simpa [World.setCell] using this
theorem Both.grow {rb : Nat} {w w' : World} {a : Option Addr} {n c g g' cg' : Nat} {X : List Key} {x : Key} {t : TypeId} (hr : RingAt rb w a n c (ringL (X ++ [x]))) (hap : ∀ y, a = some y → y.block ≠ g) (hlt : ∀ y, a = some y → y.block < w.heap.size) (hg1 : rb + 1 ≤ g)
    (ho : KOwn w' (rb + 1) (.slice (some ⟨g', 0, none⟩) (X.length + 1) cg') (X ++ [x])) (hg : (w.alloc (.cells (keyC x).toArray t)).grownBy w' (some g)) (hgg : some g = some g' ∨ g' = w.heap.size + 1) : Both rb w' a n c g' cg' (X ++ [x]) := by
  have hB : Below w.heap.size w (w.alloc (.cells (keyC x).toArray t)) := (Below.refl _ _).alloc (Nat.le_refl _) _
  refine ⟨(hr.below hB).grown hg (by intro e; injection e; omega) (fun y hy e => hap y hy (by injection e)), by rw [List.length_append]; exact ho, fun y hy e => ?_, fun y hy => ?_⟩
  · rcases hgg with h | h
    · injection h with h
      exact hap y hy (by omega)
    · have := hlt y hy
      omega
  · have := hlt y hy
    have := hg.size
    rw [World.size_alloc] at this
    omega

theorem anyK_mem {L : List Key} {k : Key} (h : k ∈ L) : anyK L k = true := by
  unfold anyK
  exact List.any_eq_true.2 ⟨k, h, by simp⟩
/-- Each of the last four is there. -/
theorem hasB_last {X : List Key} {x : Key} {i : Nat} (hi : i < 4) (hx : X[X.length - 1 - i]? = some x) : hasB (ringL X) x = true := by
  rw [hasB_ringL]
  refine anyK_mem ?_
  unfold lastN
  have hlt := (List.getElem?_eq_some_iff.1 hx).1
  refine List.mem_iff_getElem?.2 ⟨X.length - 1 - i - (X.length - 4), ?_⟩
  rw [List.getElem?_drop, ← hx]
  congr 1
  omega
theorem lastK_ringL {X : List Key} (hne : X ≠ []) : lastK (ringL X) = lastK X := by
  unfold lastK ringL lastN
  rw [List.getLastD_eq_getLast?, List.getLastD_eq_getLast?, List.getLast?_drop, if_neg (by have := List.length_pos_iff.2 hne; omega)]

set_option maxHeartbeats 2000000 in
theorem anchorWindow_walk (k : Key) (a : Option Addr) (n c : Nat) (l : List Key) (kk : Key) (W : World) (h : KS W a n c l) : Calls Try.prog 5 #[.agg (keyC k).toArray, .slice a n c, .agg (keyC kk).toArray] W (LawEnd W) := by
  have HN := Lib.hid h.1
  by_cases hn : 100 < n
  · clear h
    go_enter Try.func5, Try.ntmps5
    go_wp2_with fail
    refine (shown08 _).mono ?_
    rintro e w2 ⟨rfl, hb2⟩
    go_wp2
    go_ret
    exact gives_bool rfl (Below.of hb2 (by simp <;> omega) (((Below.refl _ _).alloc (by simp) _).alloc (by simp <;> omega) _))
  · have hcap := h.2.1
    go_enter Try.func5, Try.ntmps5
    go_wp2_with fail
    have S0 := (((Held.start W 32).row (keyC k) 23 (keyC_length k))).row (keyC kk) 23 (keyC_length kk)
    refine (shown08 _).mono ?_
    rintro e w1 ⟨rfl, hb1⟩
    try clear hcells hrows
    replace S0 := Held.to S0 hb1
    have hcells := Held.cells S0
    have hrows := Held.rows S0
    simp only [CF, RF, World.size_alloc] at hcells hrows
    go_wp2_with fail
    refine (new_n k _).mono ?_
    rintro e w2 ⟨a2, n2, c2, rfl, hk2, hb2, hf2, hn2, -, -⟩
    try clear hcells hrows
    replace S0 := Held.to S0 hb2
    have hcells := Held.cells S0
    have hrows := Held.rows S0
    simp only [CF, RF, World.size_alloc] at hcells hrows
    replace hn2 := Lib.hid hn2
    go_wp2_with fail
    replace S0 := S0.cell (.slice a2 n2 c2) 27
    replace S0 := S0.alloc (.cells (keyC k).toArray 23)
    obtain ⟨W3, hW3⟩ : ∃ W3, W3 = (w2.alloc (.cells #[.slice a2 n2 c2] 27)).alloc (.cells (keyC k).toArray 23) := ⟨_, rfl⟩
    rw [← hW3] at S0 ⊢
    have hB0 : Both w2.heap.size W3 a2 n2 c2 (w2.heap.size + 1) 1 ([k] ++ l.take 0) := by
      subst hW3
      have hR : RingAt w2.heap.size (w2.alloc (.cells #[.slice a2 n2 c2] 27)) a2 n2 c2 (ringL [k]) := ⟨by simp, by simp [go_sem], by simp [go_sem], SL.alloc hk2 _, KS.apart_new hk2 (by simp)⟩
      have hlt := KS.block_lt hk2 (by simp)
      refine ⟨hR.below ((Below.refl _ _).alloc (Nat.le_refl _) _), ?_, fun x hx => by have := hlt x hx; omega, fun x hx => by have := hlt x hx; simp; omega⟩
      have := Own.new keyC_length (w2.alloc (.cells #[.slice a2 n2 c2] 27)) (w2.heap.size + 1) [k] 23 (by simp) (by unfold maxLen; simp)
      rw [rows_one, World.size_alloc] at this
      exact this
    have hsz3 : w2.heap.size ≤ W3.heap.size := by rw [hW3]; simp; omega
    have hrk : rowOf W3 W.heap.size 0 32 = some (keyC k) := by have := S0.rows; exact this.2.1.2
    have hrkk : rowOf W3 (W.heap.size + 1) 0 32 = some (keyC kk) := by have := S0.rows; have := this.1.2; rw [World.size_alloc] at this; exact this
    have hlt2 : W.heap.size + 1 < w2.heap.size := hrows.1.1
    have hbW := S0.below
    replace hW3 := Lib.hid hW3
    clear hcells hrows S0 hk2 hf2 hb1 hb2
    generalize w2.heap.size = rb at *
    have H := Lib.hid h
    clear h
    go_loopw [8, 9] (fun v i wr => SinceB rb W3 wr ∧ ∃ j : Nat, j ≤ n ∧ i = .int .i64 j ∧ ∃ a' n' c' g cg, v = .slice (some ⟨g, 0, none⟩) (j + 1) cg ∧ Both rb wr a' n' c' g cg ([k] ++ l.take j)) (fun _ i _ => n - (intOf i).toNat)
    case atStart => exact ⟨SinceB.refl hsz3, 0, Nat.zero_le _, rfl, _, _, _, _, _, rfl, hB0⟩
    case round =>
      obtain ⟨hSB, j, hj, rfl, a', n', c', g, cg, rfl, hBo⟩ := hrel
      have hszr := hSB.size
      have hR := hBo.ring
      have C0 := hR.cell
      have C1 := hR.frozen
      have C2 := hR.lt
      have hn8 : n' ≤ 100000 := by have := hR.keys.1; have := ringL_le ([k] ++ l.take j); omega
      have hXl : ([k] ++ l.take j).length = j + 1 := by rw [List.length_append, List.length_take, ← HN.out]; simp; omega
      have hgl := hBo.g_lt
      by_cases hlt : j < n
      · have hlt' : j < l.length := by rw [← HN.out]; exact hlt
        have hx : l[j]? = some l[j] := List.getElem?_eq_getElem hlt'
        have hX1 : [k] ++ l.take (j + 1) = ([k] ++ l.take j) ++ [l[j]] := by rw [List.take_add_one, hx, List.append_assoc]; rfl
        obtain ⟨b', o', ha, hb', hr⟩ := SL.elem keyC_length H.out hx
        subst ha
        have R2 : rowOf wr b' (o' + j * 32) 32 = some (keyC l[j]) := hSB.row (by omega) (by rw [rowOf_congr (hbW.block _ hb')]; exact hr)
        have hs3 : b' < wr.heap.size := by omega
        generalize l[j] = x at *
        replace hx := Lib.hid hx
        replace hX1 := Lib.hid hX1
        replace hXl := Lib.hid hXl
        clear hr
        go_wp2_with fail
        have hall : ∀ w', SinceB rb wr w' → (rowOf w' b' (o' + j * 32) 32 = some (keyC x) ∧ b' < w'.heap.size) := fun w' h => ⟨h.row (by omega) R2, by have := h.size; omega⟩
        refine hreg_begin (S := SinceB rb wr) (by kernel_rfl) (SinceB.refl (by omega)).drew (fun hHeld => ?_)
        simp only [List.length_cons, List.length_nil, Nat.zero_add, Nat.reduceAdd, Array.replicate]
        refine hreg_take (i := 1) rfl (by kernel_rfl) (by kernel_rfl) (by kernel_rfl) hreg_panic (by rfl) hHeld ?_
        apply Exists.intro
        refine ⟨fun w' hw' => ?_, ?_⟩
        · have hf := hall w' hw'
          go_simp
          try go_bits
          exact yieldsV_mk rfl
        simp only [Act.put, List.setIfInBounds_toArray, List.set_cons_zero, List.set_cons_succ]
        refine hreg_take (i := 2) rfl (by kernel_rfl) (by kernel_rfl) (by kernel_rfl) hreg_panic (by rfl) hHeld ?_
        apply Exists.intro
        refine ⟨fun w' hw' => ?_, ?_⟩
        · have hf := hall w' hw'
          go_simp
          try go_bits
          exact yieldsV_mk rfl
        simp only [Act.put, List.setIfInBounds_toArray, List.set_cons_zero, List.set_cons_succ]
        refine hreg_take (i := 3) rfl (by kernel_rfl) (by kernel_rfl) (by kernel_rfl) hreg_panic (by rfl) hHeld ?_
        apply Exists.intro
        refine ⟨fun w' hw' => ?_, ?_⟩
        · have hf := hall w' hw'
          go_simp
          try go_bits
          exact yieldsV_mk rfl
        simp only [Act.put, List.setIfInBounds_toArray, List.set_cons_zero, List.set_cons_succ]
        refine hreg_take (i := 4) rfl (by kernel_rfl) (by kernel_rfl) (by kernel_rfl) hreg_panic (by rfl) hHeld ?_
        apply Exists.intro
        refine ⟨fun w' hw' => ?_, ?_⟩
        · have hf := hall w' hw'
          go_simp
          try go_bits
          exact yieldsV_mk rfl
        simp only [Act.put, List.setIfInBounds_toArray, List.set_cons_zero, List.set_cons_succ]
        refine wpAnyH_ready (rs := [0]) (by kernel_rfl) (by simp) ?_
        refine hreg_event (o := _) rfl (by rfl) (fun K hK => ?_) ?_
        · go_simp
          first
            | (go_at_call 15; refine (put_n a' n' c' _ x _ hR.drew.keys hn8).mono ?_; rintro e wn ⟨ap, np, cp, rfl, hkp, hb, hfp, hnp, -, -⟩; have hRn := hR.drew.below hb; have E0 := hRn.cell; have E1 := hRn.frozen; have E2 := hRn.lt; replace hnp := Lib.hid hnp)
            | skip
          refine hK.out _ _ ?_ (fun hHeld' => ?_)
          · first
              | exact hHeld.setCell (Nat.le_refl _) _
              | exact hHeld.next hb
              | exact hHeld
              | exact hHeld.alloc _
              | exact hHeld.setCell (by simp <;> omega) _
              | exact (hHeld.alloc _).alloc _
          replace hHeld := hHeld'
          clear hHeld' hK K
          simp only [Act.put, List.setIfInBounds_toArray, List.set_cons_zero, List.set_cons_succ]
          refine wpAnyH_ready (rs := [5]) (by kernel_rfl) (by simp) ?_
          refine hreg_event (o := _) rfl (by rfl) (fun K hK => ?_) ?_
          · go_simp
            first
              | (go_at_call 15; refine (put_n a' n' c' _ x _ hR.drew.keys hn8).mono ?_; rintro e wn ⟨ap, np, cp, rfl, hkp, hb, hfp, hnp, -, -⟩; have hRn := hR.drew.below hb; have E0 := hRn.cell; have E1 := hRn.frozen; have E2 := hRn.lt; replace hnp := Lib.hid hnp)
              | skip
            refine hK.out _ _ ?_ (fun hHeld' => ?_)
            · first
                | exact hHeld.setCell (Nat.le_refl _) _
                | exact hHeld.next hb
                | exact hHeld
                | exact hHeld.alloc _
                | exact hHeld.setCell (by simp <;> omega) _
                | exact (hHeld.alloc _).alloc _
            replace hHeld := hHeld'
            clear hHeld' hK K
            simp only [Act.put, List.setIfInBounds_toArray, List.set_cons_zero, List.set_cons_succ]
            refine wpAnyH_ready (rs := [6]) (by kernel_rfl) (by simp) ?_
            refine hreg_event (o := _) rfl (by rfl) (fun K hK => ?_) ?_
            · go_simp
              first
                | (go_at_call 15; refine (put_n a' n' c' _ x _ hR.drew.keys hn8).mono ?_; rintro e wn ⟨ap, np, cp, rfl, hkp, hb, hfp, hnp, -, -⟩; have hRn := hR.drew.below hb; have E0 := hRn.cell; have E1 := hRn.frozen; have E2 := hRn.lt; replace hnp := Lib.hid hnp)
                | skip
              refine hK.out _ _ ?_ (fun hHeld' => ?_)
              · first
                  | exact hHeld.setCell (Nat.le_refl _) _
                  | exact hHeld.next hb
                  | exact hHeld
                  | exact hHeld.alloc _
                  | exact hHeld.setCell (by simp <;> omega) _
                  | exact (hHeld.alloc _).alloc _
              replace hHeld := hHeld'
              clear hHeld' hK K
              simp only [Act.put, List.setIfInBounds_toArray, List.set_cons_zero, List.set_cons_succ]
              refine wpAnyH_done (by kernel_rfl) ?_ _
              refine NoPanic.normal ?_
              obtain ⟨hR5, hA5, hap5, hlt5⟩ := (hBo.below ((Below.refl _ _).drew)).put hb hkp hfp
              obtain ⟨w7, hw7⟩ : ∃ w7, w7 = wn.setCell ⟨rb, 0, none⟩ (.slice ap np cp) := ⟨_, rfl⟩
              rw [← hw7] at hR5 hA5 hlt5 hHeld ⊢
              have R7 := (hall _ hHeld).1
              have hs7 := (hall _ hHeld).2
              have hgl7 : rb + 1 ≤ w7.heap.size := by have := hHeld.size; omega
              replace hw7 := Lib.hid hw7
              rw [hXl.out] at hA5
              go_wp2
              obtain ⟨g', cg', w8, hap, hown, hgr, hgg⟩ := app_k1g (ty := 24) hA5 hgl7 x (by rw [hXl.out]; omega)
              rw [hXl.out] at hap hown
              rw [hap]
              replace hap := Lib.hid hap
              go_wp2
              have hBn : Both rb w8 ap np cp g' cg' ([k] ++ l.take (j + 1)) := by rw [hX1.out]; exact Both.grow hR5 hap5 hlt5 hgl.1 (by rw [hXl.out]; exact hown) hgr hgg
              go_roundw
              case rel => exact ⟨((hSB.trans hHeld).alloc _).grown hgr (fun b hb => by have : g = b := (by simpa [Value.ownBlock] using hb); omega), j + 1, by omega, by go_num, _, _, _, _, _, rfl, hBn⟩
              case measure => simp [intOf]; omega
            exact AllReadyH.nil
          exact AllReadyH.nil
        exact AllReadyH.nil
      · obtain rfl : j = n := by omega
        go_wp2_with fail
        obtain ⟨wb, hwb⟩ : ∃ wb, wb = wr := ⟨_, rfl⟩
        subst hwb
        have hA := hBo.all
        rw [hXl] at hA
        have hAK := hA.sl'.2
        have hcg : j + 1 ≤ cg := hAK.2.1
        obtain ⟨X, hX⟩ : ∃ X, X = [k] ++ l.take j := ⟨_, rfl⟩
        rw [← hX] at hAK hR hXl
        have hXne : X ≠ [] := by rw [hX]; simp
        have Rk : rowOf wb (W.heap.size + 1) 0 32 = some (keyC kk) := hSB.row hlt2 hrkk
        have hs1 : W.heap.size + 1 < wb.heap.size := by omega
        have hbL := hbW.trans (hSB.out.mono (by omega))
        replace hX := Lib.hid hX
        replace hXl := Lib.hid hXl
        go_loopw [10, 11] (fun v i w' => Since wb w' ∧ ∃ t : Nat, t ≤ 4 ∧ t ≤ j + 1 ∧ i = .int .i64 t ∧ v = .bool (anyK (X.drop (j + 1 - t)) kk)) (fun _ i _ => 4 - (intOf i).toNat)
        case atStart => exact ⟨Below.refl _ _, 0, by omega, by omega, rfl, by rw [Nat.sub_zero, ← hXl.out, List.drop_length]; rfl⟩
        case round =>
          obtain ⟨hSw, t, ht, htj, rfl, rfl⟩ := hrel
          have hKr := SL.below hAK hSw
          have hRr := hR.below hSw
          have D0 := hRr.cell
          have D2 := hRr.lt
          have Rkr : rowOf wr (W.heap.size + 1) 0 32 = some (keyC kk) := by rw [rowOf_congr (Below.block hSw _ hs1)]; exact Rk
          have hs2 : W.heap.size + 1 < wr.heap.size := by have := Below.size hSw; omega
          by_cases hc : t < 4 ∧ t < j + 1
          · obtain ⟨hc1, hc2⟩ := hc
            have hlX : j - t < X.length := by rw [hXl.out]; omega
            have hy : X[j - t]? = some X[j - t] := List.getElem?_eq_getElem hlX
            have hh := hasB_last (X := X) (i := t) hc1 (x := X[j - t]) (by rw [show X.length - 1 - t = j - t from by rw [hXl.out]; omega]; exact hy)
            have hd : X.drop (j + 1 - (t + 1)) = X[j - t] :: X.drop (j + 1 - t) := by rw [show j + 1 - (t + 1) = j - t from by omega, show j + 1 - t = j - t + 1 from by omega]; exact List.drop_eq_getElem_cons hlX
            obtain ⟨bg, og, hg, hbg, hrg⟩ := SL.elem keyC_length hKr hy
            injection hg with hg
            injection hg with hg1 hg2
            subst hg1 hg2
            generalize X[j - t] = y at *
            replace hh := Lib.hid hh
            replace hd := Lib.hid hd
            clear hy
            have hh' := hh.out
            have hnr : n' ≤ 1000000 := by omega
            have hbg' : g < wr.heap.size := hbg
            have hc2' : t ≤ j := by omega
            have hc2i : (j : Int) - (t : Int) < (j : Int) + 1 := by omega
            rw [Nat.zero_add] at hrg
            cases hwant : anyK (X.drop (j + 1 - t)) kk
            · skip
              cases hyk : (y == kk)
              all_goals
                go_wp2
                (refine region_since (by kernel_rfl) (by kernel_rfl) ?_)
                repeat (first
                  | (refine wpQuiet_goff rfl rfl rfl rfl ?_; simp only [Act.put, List.setIfInBounds_toArray, List.set_cons_succ, List.set_cons_zero])
                  | (first
                       | refine wpQuiet_free rfl ?_
                       | refine wpQuiet_gon rfl rfl rfl rfl ?_
                     apply Exists.intro
                     refine ⟨fun w' hw' => ?_, ?_⟩
                     · (obtain ⟨hc', hr', hs'⟩ := since_facts hw'
                        unfold Oper.quietAt
                        go_simp
                        try go_bits
                        first
                          | exact quietUpon_value rfl
                          | (apply quietUpon_enter
                             first
                             | (go_at_call 16; exact calls_since hw' (has_n a' n' c' (ringL X) y _ (SL.below hRr.keys hw') hnr))))
                     simp only [Act.put, List.setIfInBounds_toArray, List.set_cons_succ, List.set_cons_zero]))
                first
                  | refine wpQuiet_nil ?_
                  | fail "QUIET stopped"
                intro wq hwq'
                have Q1 : rowOf wq (W.heap.size + 1) 0 32 = some (keyC kk) := by rw [rowOf_congr (Below.block hwq' _ hs2)]; exact Rkr
                have Q2 : rowOf wq g ((j - t) * 32) 32 = some (keyC y) := by rw [rowOf_congr (Below.block hwq' _ hbg)]; exact hrg
                have Q3 := Below.size hwq'
                have hall : ∀ w', SinceP wq w' → (rowOf w' (W.heap.size + 1) 0 32 = some (keyC kk) ∧ rowOf w' g ((j - t) * 32) 32 = some (keyC y) ∧ W.heap.size + 1 < w'.heap.size ∧ g < w'.heap.size) := fun w' h => ⟨by rw [rowOf_congr (h.out.block _ (by omega))]; exact Q1, by rw [rowOf_congr (h.out.block _ (by omega))]; exact Q2, by have := h.out.size; omega, by have := h.out.size; omega⟩
                have hvv : (anyK (X.drop (j + 1 - (t + 1))) kk) = ((y == kk) || anyK (X.drop (j + 1 - t)) kk) := by rw [hd.out]; rfl
                rw [hwant, hyk] at hvv
                replace hvv := Lib.hid hvv
                replace hwq' := Lib.hid hwq'
                go_wp2
                refine hreg_begin (S := SinceP wq) (by kernel_rfl) (SinceP.refl _).drew (fun hHeld => ?_)
                simp only [List.length_cons, List.length_nil, Nat.zero_add, Nat.reduceAdd, Array.replicate]
                refine hreg_take (i := 0) rfl (by kernel_rfl) (by kernel_rfl) (by kernel_rfl) hreg_panic (by rfl) hHeld ?_
                apply Exists.intro
                refine ⟨fun w' hw' => ?_, ?_⟩
                · have hf := hall w' hw'
                  go_simp
                  try go_bits
                  exact yieldsV_mk rfl
                simp only [Act.put, List.setIfInBounds_toArray, List.set_cons_zero, List.set_cons_succ]
                refine hreg_take (i := 1) rfl (by kernel_rfl) (by kernel_rfl) (by kernel_rfl) hreg_panic (by rfl) hHeld ?_
                apply Exists.intro
                refine ⟨fun w' hw' => ?_, ?_⟩
                · have hf := hall w' hw'
                  go_simp
                  try go_bits
                  exact yieldsV_mk rfl
                simp only [Act.put, List.setIfInBounds_toArray, List.set_cons_zero, List.set_cons_succ]
                refine hreg_take (i := 2) rfl (by kernel_rfl) (by kernel_rfl) (by kernel_rfl) hreg_panic (by rfl) hHeld ?_
                apply Exists.intro
                refine ⟨fun w' hw' => ?_, ?_⟩
                · have hf := hall w' hw'
                  go_simp
                  try go_bits
                  exact yieldsV_mk rfl
                simp only [Act.put, List.setIfInBounds_toArray, List.set_cons_zero, List.set_cons_succ]
                refine hreg_take (i := 3) rfl (by kernel_rfl) (by kernel_rfl) (by kernel_rfl) hreg_panic (by rfl) hHeld ?_
                apply Exists.intro
                refine ⟨fun w' hw' => ?_, ?_⟩
                · have hf := hall w' hw'
                  go_simp
                  try go_bits
                  exact yieldsV_mk rfl
                simp only [Act.put, List.setIfInBounds_toArray, List.set_cons_zero, List.set_cons_succ]
                refine hreg_take (i := 4) rfl (by kernel_rfl) (by kernel_rfl) (by kernel_rfl) hreg_panic (by rfl) hHeld ?_
                apply Exists.intro
                refine ⟨fun w' hw' => ?_, ?_⟩
                · have hf := hall w' hw'
                  go_simp
                  try go_bits
                  exact yieldsV_mk rfl
                simp only [Act.put, List.setIfInBounds_toArray, List.set_cons_zero, List.set_cons_succ]
                refine hreg_take (i := 5) rfl (by kernel_rfl) (by kernel_rfl) (by kernel_rfl) hreg_panic (by rfl) hHeld ?_
                apply Exists.intro
                refine ⟨fun w' hw' => ?_, ?_⟩
                · have hf := hall w' hw'
                  go_simp
                  try go_bits
                  exact yieldsV_mk rfl
                simp only [Act.put, List.setIfInBounds_toArray, List.set_cons_zero, List.set_cons_succ]
                refine hreg_take (i := 6) rfl (by kernel_rfl) (by kernel_rfl) (by kernel_rfl) hreg_panic (by rfl) hHeld ?_
                apply Exists.intro
                refine ⟨fun w' hw' => ?_, ?_⟩
                · have hf := hall w' hw'
                  go_simp
                  try go_bits
                  exact yieldsV_mk rfl
                simp only [Act.put, List.setIfInBounds_toArray, List.set_cons_zero, List.set_cons_succ]
                refine hreg_take (i := 7) rfl (by kernel_rfl) (by kernel_rfl) (by kernel_rfl) hreg_panic (by rfl) hHeld ?_
                apply Exists.intro
                refine ⟨fun w' hw' => ?_, ?_⟩
                · have hf := hall w' hw'
                  go_simp
                  try go_bits
                  exact yieldsV_mk rfl
                simp only [Act.put, List.setIfInBounds_toArray, List.set_cons_zero, List.set_cons_succ]
                refine hreg_take (i := 8) rfl (by kernel_rfl) (by kernel_rfl) (by kernel_rfl) hreg_panic (by rfl) hHeld ?_
                apply Exists.intro
                refine ⟨fun w' hw' => ?_, ?_⟩
                · have hf := hall w' hw'
                  go_simp
                  try go_bits
                  exact yieldsV_mk rfl
                simp only [Act.put, List.setIfInBounds_toArray, List.set_cons_zero, List.set_cons_succ]
                refine hreg_take (i := 9) rfl (by kernel_rfl) (by kernel_rfl) (by kernel_rfl) hreg_panic (by rfl) hHeld ?_
                apply Exists.intro
                refine ⟨fun w' hw' => ?_, ?_⟩
                · have hf := hall w' hw'
                  go_simp
                  try go_bits
                  exact yieldsV_mk rfl
                simp only [Act.put, List.setIfInBounds_toArray, List.set_cons_zero, List.set_cons_succ]
                refine hreg_take (i := 10) rfl (by kernel_rfl) (by kernel_rfl) (by kernel_rfl) hreg_panic (by rfl) hHeld ?_
                apply Exists.intro
                refine ⟨fun w' hw' => ?_, ?_⟩
                · have hf := hall w' hw'
                  go_simp
                  try go_bits
                  exact yieldsV_mk rfl
                simp only [Act.put, List.setIfInBounds_toArray, List.set_cons_zero, List.set_cons_succ]
                refine hreg_take (i := 11) rfl (by kernel_rfl) (by kernel_rfl) (by kernel_rfl) hreg_panic (by rfl) hHeld ?_
                apply Exists.intro
                refine ⟨fun w' hw' => ?_, ?_⟩
                · have hf := hall w' hw'
                  go_simp
                  try go_bits
                  exact yieldsV_mk rfl
                simp only [Act.put, List.setIfInBounds_toArray, List.set_cons_zero, List.set_cons_succ]
                refine hreg_take (i := 12) rfl (by kernel_rfl) (by kernel_rfl) (by kernel_rfl) hreg_panic (by rfl) hHeld ?_
                apply Exists.intro
                refine ⟨fun w' hw' => ?_, ?_⟩
                · have hf := hall w' hw'
                  go_simp
                  try go_bits
                  exact yieldsV_mk rfl
                simp only [Act.put, List.setIfInBounds_toArray, List.set_cons_zero, List.set_cons_succ]
                refine hreg_take (i := 13) rfl (by kernel_rfl) (by kernel_rfl) (by kernel_rfl) hreg_panic (by rfl) hHeld ?_
                apply Exists.intro
                refine ⟨fun w' hw' => ?_, ?_⟩
                · have hf := hall w' hw'
                  go_simp
                  try go_bits
                  exact yieldsV_mk rfl
                simp only [Act.put, List.setIfInBounds_toArray, List.set_cons_zero, List.set_cons_succ]
                refine wpAnyH_done (by kernel_rfl) ?_ _
                refine NoPanic.normal ?_
                go_wp2
                go_roundw
                case rel => exact ⟨since_next (since_next hSw hwq'.out) hHeld.out, t + 1, by omega, by omega, by go_num, by rw [hvv.out]; rfl⟩
                case measure => simp [intOf]; omega
            · skip
              cases hyk : (y == kk)
              all_goals
                go_wp2
                (refine region_since (by kernel_rfl) (by kernel_rfl) ?_)
                repeat (first
                  | (refine wpQuiet_goff rfl rfl rfl rfl ?_; simp only [Act.put, List.setIfInBounds_toArray, List.set_cons_succ, List.set_cons_zero])
                  | (first
                       | refine wpQuiet_free rfl ?_
                       | refine wpQuiet_gon rfl rfl rfl rfl ?_
                     apply Exists.intro
                     refine ⟨fun w' hw' => ?_, ?_⟩
                     · (obtain ⟨hc', hr', hs'⟩ := since_facts hw'
                        unfold Oper.quietAt
                        go_simp
                        try go_bits
                        first
                          | exact quietUpon_value rfl
                          | (apply quietUpon_enter
                             first
                             | (go_at_call 16; exact calls_since hw' (has_n a' n' c' (ringL X) y _ (SL.below hRr.keys hw') hnr))))
                     simp only [Act.put, List.setIfInBounds_toArray, List.set_cons_succ, List.set_cons_zero]))
                first
                  | refine wpQuiet_nil ?_
                  | fail "QUIET stopped"
                intro wq hwq'
                have Q1 : rowOf wq (W.heap.size + 1) 0 32 = some (keyC kk) := by rw [rowOf_congr (Below.block hwq' _ hs2)]; exact Rkr
                have Q2 : rowOf wq g ((j - t) * 32) 32 = some (keyC y) := by rw [rowOf_congr (Below.block hwq' _ hbg)]; exact hrg
                have Q3 := Below.size hwq'
                have hall : ∀ w', SinceP wq w' → (rowOf w' (W.heap.size + 1) 0 32 = some (keyC kk) ∧ rowOf w' g ((j - t) * 32) 32 = some (keyC y) ∧ W.heap.size + 1 < w'.heap.size ∧ g < w'.heap.size) := fun w' h => ⟨by rw [rowOf_congr (h.out.block _ (by omega))]; exact Q1, by rw [rowOf_congr (h.out.block _ (by omega))]; exact Q2, by have := h.out.size; omega, by have := h.out.size; omega⟩
                have hvv : (anyK (X.drop (j + 1 - (t + 1))) kk) = ((y == kk) || anyK (X.drop (j + 1 - t)) kk) := by rw [hd.out]; rfl
                rw [hwant, hyk] at hvv
                replace hvv := Lib.hid hvv
                replace hwq' := Lib.hid hwq'
                go_wp2
                refine hreg_begin (S := SinceP wq) (by kernel_rfl) (SinceP.refl _).drew (fun hHeld => ?_)
                simp only [List.length_cons, List.length_nil, Nat.zero_add, Nat.reduceAdd, Array.replicate]
                refine hreg_take (i := 0) rfl (by kernel_rfl) (by kernel_rfl) (by kernel_rfl) hreg_panic (by rfl) hHeld ?_
                apply Exists.intro
                refine ⟨fun w' hw' => ?_, ?_⟩
                · have hf := hall w' hw'
                  go_simp
                  try go_bits
                  exact yieldsV_mk rfl
                simp only [Act.put, List.setIfInBounds_toArray, List.set_cons_zero, List.set_cons_succ]
                refine hreg_take (i := 1) rfl (by kernel_rfl) (by kernel_rfl) (by kernel_rfl) hreg_panic (by rfl) hHeld ?_
                apply Exists.intro
                refine ⟨fun w' hw' => ?_, ?_⟩
                · have hf := hall w' hw'
                  go_simp
                  try go_bits
                  exact yieldsV_mk rfl
                simp only [Act.put, List.setIfInBounds_toArray, List.set_cons_zero, List.set_cons_succ]
                refine hreg_skip (i := 2) rfl (by kernel_rfl) (by kernel_rfl) (by kernel_rfl) hreg_panic (by rfl) hHeld ?_
                simp only [Act.put, List.setIfInBounds_toArray, List.set_cons_zero, List.set_cons_succ]
                refine hreg_skip (i := 3) rfl (by kernel_rfl) (by kernel_rfl) (by kernel_rfl) hreg_panic (by rfl) hHeld ?_
                simp only [Act.put, List.setIfInBounds_toArray, List.set_cons_zero, List.set_cons_succ]
                refine hreg_skip (i := 4) rfl (by kernel_rfl) (by kernel_rfl) (by kernel_rfl) hreg_panic (by rfl) hHeld ?_
                simp only [Act.put, List.setIfInBounds_toArray, List.set_cons_zero, List.set_cons_succ]
                refine hreg_skip (i := 5) rfl (by kernel_rfl) (by kernel_rfl) (by kernel_rfl) hreg_panic (by rfl) hHeld ?_
                simp only [Act.put, List.setIfInBounds_toArray, List.set_cons_zero, List.set_cons_succ]
                refine hreg_skip (i := 6) rfl (by kernel_rfl) (by kernel_rfl) (by kernel_rfl) hreg_panic (by rfl) hHeld ?_
                simp only [Act.put, List.setIfInBounds_toArray, List.set_cons_zero, List.set_cons_succ]
                refine hreg_skip (i := 7) rfl (by kernel_rfl) (by kernel_rfl) (by kernel_rfl) hreg_panic (by rfl) hHeld ?_
                simp only [Act.put, List.setIfInBounds_toArray, List.set_cons_zero, List.set_cons_succ]
                refine hreg_skip (i := 8) rfl (by kernel_rfl) (by kernel_rfl) (by kernel_rfl) hreg_panic (by rfl) hHeld ?_
                simp only [Act.put, List.setIfInBounds_toArray, List.set_cons_zero, List.set_cons_succ]
                refine hreg_skip (i := 9) rfl (by kernel_rfl) (by kernel_rfl) (by kernel_rfl) hreg_panic (by rfl) hHeld ?_
                simp only [Act.put, List.setIfInBounds_toArray, List.set_cons_zero, List.set_cons_succ]
                refine hreg_skip (i := 10) rfl (by kernel_rfl) (by kernel_rfl) (by kernel_rfl) hreg_panic (by rfl) hHeld ?_
                simp only [Act.put, List.setIfInBounds_toArray, List.set_cons_zero, List.set_cons_succ]
                refine hreg_skip (i := 11) rfl (by kernel_rfl) (by kernel_rfl) (by kernel_rfl) hreg_panic (by rfl) hHeld ?_
                simp only [Act.put, List.setIfInBounds_toArray, List.set_cons_zero, List.set_cons_succ]
                refine hreg_take (i := 12) rfl (by kernel_rfl) (by kernel_rfl) (by kernel_rfl) hreg_panic (by rfl) hHeld ?_
                apply Exists.intro
                refine ⟨fun w' hw' => ?_, ?_⟩
                · have hf := hall w' hw'
                  go_simp
                  try go_bits
                  exact yieldsV_mk rfl
                simp only [Act.put, List.setIfInBounds_toArray, List.set_cons_zero, List.set_cons_succ]
                refine hreg_take (i := 13) rfl (by kernel_rfl) (by kernel_rfl) (by kernel_rfl) hreg_panic (by rfl) hHeld ?_
                apply Exists.intro
                refine ⟨fun w' hw' => ?_, ?_⟩
                · have hf := hall w' hw'
                  go_simp
                  try go_bits
                  exact yieldsV_mk rfl
                simp only [Act.put, List.setIfInBounds_toArray, List.set_cons_zero, List.set_cons_succ]
                refine wpAnyH_done (by kernel_rfl) ?_ _
                refine NoPanic.normal ?_
                go_wp2
                go_roundw
                case rel => exact ⟨since_next (since_next hSw hwq'.out) hHeld.out, t + 1, by omega, by omega, by go_num, by rw [hvv.out]; rfl⟩
                case measure => simp [intOf]; omega
          · have hlen : n' = min (j + 1) 8 := by rw [hR.keys.1, ringL, lastN_length, hXl.out]; omega
            have hwn : anyK (X.drop (j + 1 - t)) kk = hasB (ringL X) kk := by
              rw [hasB_ringL]
              unfold lastN
              rw [hXl.out]
              congr 2
              omega
            rw [hwn]
            have he : (ringL X).isEmpty = false := by
              have hl : (ringL X).length = n' := hR.keys.1.symm
              cases h : ringL X with
              | nil => rw [h] at hl; simp at hl; omega
              | cons _ _ => rfl
            have hlk := lastK_ringL hXne
            have hjX : X[j]? = some (lastK X) := by have := lastK_get hXne; rwa [hXl.out, Nat.add_sub_cancel] at this
            obtain ⟨bg, og, hg, hbg, hrg⟩ := SL.elem keyC_length hKr hjX
            injection hg with hg
            injection hg with hg1 hg2
            subst hg1 hg2
            rw [Nat.zero_add] at hrg
            have hmin : (n' : Int) = min ((j : Int) + 1) 8 := by omega
            have hjj : (j : Int) < (j : Int) + 1 := by omega
            replace hlen := Lib.hid hlen
            replace hmin := Lib.hid hmin
            have ht4 : t = 4 ∨ (t < 4 ∧ t = j + 1) := by omega
            rcases ht4 with rfl | ⟨h4, rfl⟩
            all_goals
              go_wp2_with fail
              refine (last_n a' n' c' (ringL X) _ hRr.keys (by omega)).mono ?_
              rintro e w6 ⟨rfl, hb6⟩
              rw [he, hlk]
              have hRz := hRr.below hb6
              have Z0 := hRz.cell
              have Z2 := hRz.lt
              have Z3 : rowOf w6 (W.heap.size + 1) 0 32 = some (keyC kk) := by rw [rowOf_congr (hb6.block _ hs2)]; exact Rkr
              have Z4 : rowOf w6 g (j * 32) 32 = some (keyC (lastK X)) := by rw [rowOf_congr (hb6.block _ hbg)]; exact hrg
              have hsz6 := hb6.size
              have Z5 : W.heap.size + 1 < w6.heap.size := by omega
              go_wp2_with fail
              obtain ⟨w9, hw9⟩ : ∃ w9, w9 = w6.alloc (.cells (keyC (lastK X)).toArray 23) := ⟨_, rfl⟩
              have hx9 : rowOf w9 w6.heap.size 0 32 = some (keyC (lastK X)) := by rw [hw9]; exact rowOf_alloc_new _ _ _ _ _ _ rfl (keyC_length _)
              have hb9 : Below w6.heap.size w6 w9 := by rw [hw9]; exact (Below.refl _ _).alloc (Nat.le_refl _) _
              have hlt9 : w6.heap.size < w9.heap.size := by rw [hw9]; simp
              have hR9 := hRz.below hb9
              rw [← hw9]
              replace hw9 := Lib.hid hw9
              have hall : ∀ w', SinceP w9 w' → ((rowOf w' w6.heap.size 0 32 = some (keyC (lastK X)) ∧ w6.heap.size < w'.heap.size) ∧ rowOf w' (W.heap.size + 1) 0 32 = some (keyC kk) ∧ rowOf w' g (j * 32) 32 = some (keyC (lastK X)) ∧ W.heap.size + 1 < w'.heap.size ∧ g < w'.heap.size ∧ rb < w'.heap.size ∧ w'.cell? ⟨rb, 0, none⟩ = some (.slice a' n' c')) := fun w' h => by
                have hs' := h.out.size
                refine ⟨⟨by rw [rowOf_congr (h.out.block _ hlt9)]; exact hx9, by omega⟩, ?_, ?_, by omega, by omega, by omega, (hR9.below h.out).cell⟩
                · rw [rowOf_congr (h.out.block _ (by omega)), rowOf_congr (hb9.block _ (by omega))]; exact Z3
                · rw [rowOf_congr (h.out.block _ (by omega)), rowOf_congr (hb9.block _ (by omega))]; exact Z4
              refine hreg_begin (S := SinceP w9) (by kernel_rfl) (SinceP.refl _).drew (fun hHeld => ?_)
              simp only [List.length_cons, List.length_nil, Nat.zero_add, Nat.reduceAdd, Array.replicate]
              refine hreg_take (i := 0) rfl (by kernel_rfl) (by kernel_rfl) (by kernel_rfl) hreg_panic (by rfl) hHeld ?_
              apply Exists.intro
              refine ⟨fun w' hw' => ?_, ?_⟩
              · have hf := hall w' hw'
                go_simp
                try go_bits
                exact yieldsV_mk rfl
              simp only [Act.put, List.setIfInBounds_toArray, List.set_cons_zero, List.set_cons_succ]
              refine hreg_take (i := 1) rfl (by kernel_rfl) (by kernel_rfl) (by kernel_rfl) hreg_panic (by rfl) hHeld ?_
              apply Exists.intro
              refine ⟨fun w' hw' => ?_, ?_⟩
              · have hf := hall w' hw'
                go_simp
                try go_bits
                exact yieldsV_mk rfl
              simp only [Act.put, List.setIfInBounds_toArray, List.set_cons_zero, List.set_cons_succ]
              refine hreg_take (i := 3) rfl (by kernel_rfl) (by kernel_rfl) (by kernel_rfl) hreg_panic (by rfl) hHeld ?_
              apply Exists.intro
              refine ⟨fun w' hw' => ?_, ?_⟩
              · have hf := hall w' hw'
                go_simp
                try go_bits
                exact yieldsV_mk rfl
              simp only [Act.put, List.setIfInBounds_toArray, List.set_cons_zero, List.set_cons_succ]
              refine wpAnyH_ready (rs := [2]) (by kernel_rfl) (by simp) ?_
              refine hreg_event (o := _) rfl (by rfl) (fun K hK => ?_) ?_
              · go_simp
                first
                  | (go_at_call 16; refine (has_n a' n' c' (ringL X) kk _ (SL.below hR9.keys hHeld.out) (by omega)).mono ?_; rintro e wn ⟨rfl, hb⟩)
                  | skip
                refine hK.out _ _ ?_ (fun hHeld' => ?_)
                · first
                    | exact hHeld.next hb
                    | exact hHeld
                    | exact hHeld.alloc _
                    | exact hHeld.setCell (by simp <;> omega) _
                    | exact (hHeld.alloc _).alloc _
                replace hHeld := hHeld'
                clear hHeld' hK K
                simp only [Act.put, List.setIfInBounds_toArray, List.set_cons_zero, List.set_cons_succ]
                refine hreg_take (i := 4) rfl (by kernel_rfl) (by kernel_rfl) (by kernel_rfl) hreg_panic (by rfl) hHeld ?_
                apply Exists.intro
                refine ⟨fun w' hw' => ?_, ?_⟩
                · have hf := hall w' hw'
                  go_simp
                  try go_bits
                  exact yieldsV_mk rfl
                simp only [Act.put, List.setIfInBounds_toArray, List.set_cons_zero, List.set_cons_succ]
                refine hreg_take (i := 5) rfl (by kernel_rfl) (by kernel_rfl) (by kernel_rfl) hreg_panic (by rfl) hHeld ?_
                apply Exists.intro
                refine ⟨fun w' hw' => ?_, ?_⟩
                · have hf := hall w' hw'
                  go_simp
                  try go_bits
                  exact yieldsV_mk rfl
                simp only [Act.put, List.setIfInBounds_toArray, List.set_cons_zero, List.set_cons_succ]
                refine hreg_take (i := 6) rfl (by kernel_rfl) (by kernel_rfl) (by kernel_rfl) hreg_panic (by rfl) hHeld ?_
                apply Exists.intro
                refine ⟨fun w' hw' => ?_, ?_⟩
                · have hf := hall w' hw'
                  go_simp
                  try go_bits
                  exact yieldsV_mk rfl
                simp only [Act.put, List.setIfInBounds_toArray, List.set_cons_zero, List.set_cons_succ]
                refine hreg_take (i := 7) rfl (by kernel_rfl) (by kernel_rfl) (by kernel_rfl) hreg_panic (by rfl) hHeld ?_
                apply Exists.intro
                refine ⟨fun w' hw' => ?_, ?_⟩
                · have hf := hall w' hw'
                  go_simp
                  try go_bits
                  exact yieldsV_mk rfl
                simp only [Act.put, List.setIfInBounds_toArray, List.set_cons_zero, List.set_cons_succ]
                refine hreg_take (i := 8) rfl (by kernel_rfl) (by kernel_rfl) (by kernel_rfl) hreg_panic (by rfl) hHeld ?_
                apply Exists.intro
                refine ⟨fun w' hw' => ?_, ?_⟩
                · have hf := hall w' hw'
                  go_simp
                  try go_bits
                  exact yieldsV_mk rfl
                simp only [Act.put, List.setIfInBounds_toArray, List.set_cons_zero, List.set_cons_succ]
                refine hreg_take (i := 9) rfl (by kernel_rfl) (by kernel_rfl) (by kernel_rfl) hreg_panic (by rfl) hHeld ?_
                apply Exists.intro
                refine ⟨fun w' hw' => ?_, ?_⟩
                · have hf := hall w' hw'
                  go_simp
                  try go_bits
                  exact yieldsV_mk rfl
                simp only [Act.put, List.setIfInBounds_toArray, List.set_cons_zero, List.set_cons_succ]
                refine hreg_take (i := 10) rfl (by kernel_rfl) (by kernel_rfl) (by kernel_rfl) hreg_panic (by rfl) hHeld ?_
                apply Exists.intro
                refine ⟨fun w' hw' => ?_, ?_⟩
                · have hf := hall w' hw'
                  go_simp
                  try go_bits
                  exact yieldsV_mk rfl
                simp only [Act.put, List.setIfInBounds_toArray, List.set_cons_zero, List.set_cons_succ]
                refine hreg_take (i := 11) rfl (by kernel_rfl) (by kernel_rfl) (by kernel_rfl) hreg_panic (by rfl) hHeld ?_
                apply Exists.intro
                refine ⟨fun w' hw' => ?_, ?_⟩
                · have hf := hall w' hw'
                  go_simp
                  try go_bits
                  exact yieldsV_mk rfl
                simp only [Act.put, List.setIfInBounds_toArray, List.set_cons_zero, List.set_cons_succ]
                refine hreg_take (i := 12) rfl (by kernel_rfl) (by kernel_rfl) (by kernel_rfl) hreg_panic (by rfl) hHeld ?_
                apply Exists.intro
                refine ⟨fun w' hw' => ?_, ?_⟩
                · have hf := hall w' hw'
                  go_simp
                  try go_bits
                  exact yieldsV_mk rfl
                simp only [Act.put, List.setIfInBounds_toArray, List.set_cons_zero, List.set_cons_succ]
                refine hreg_take (i := 13) rfl (by kernel_rfl) (by kernel_rfl) (by kernel_rfl) hreg_panic (by rfl) hHeld ?_
                apply Exists.intro
                refine ⟨fun w' hw' => ?_, ?_⟩
                · have hf := hall w' hw'
                  go_simp
                  try go_bits
                  exact yieldsV_mk rfl
                simp only [Act.put, List.setIfInBounds_toArray, List.set_cons_zero, List.set_cons_succ]
                refine hreg_take (i := 14) rfl (by kernel_rfl) (by kernel_rfl) (by kernel_rfl) hreg_panic (by rfl) hHeld ?_
                apply Exists.intro
                refine ⟨fun w' hw' => ?_, ?_⟩
                · have hf := hall w' hw'
                  go_simp
                  try go_bits
                  exact yieldsV_mk rfl
                simp only [Act.put, List.setIfInBounds_toArray, List.set_cons_zero, List.set_cons_succ]
                refine hreg_take (i := 15) rfl (by kernel_rfl) (by kernel_rfl) (by kernel_rfl) hreg_panic (by rfl) hHeld ?_
                apply Exists.intro
                refine ⟨fun w' hw' => ?_, ?_⟩
                · have hf := hall w' hw'
                  go_simp
                  try go_bits
                  exact yieldsV_mk rfl
                simp only [Act.put, List.setIfInBounds_toArray, List.set_cons_zero, List.set_cons_succ]
                refine hreg_take (i := 16) rfl (by kernel_rfl) (by kernel_rfl) (by kernel_rfl) hreg_panic (by rfl) hHeld ?_
                apply Exists.intro
                refine ⟨fun w' hw' => ?_, ?_⟩
                · have hf := hall w' hw'
                  go_simp
                  try go_bits
                  exact yieldsV_mk rfl
                simp only [Act.put, List.setIfInBounds_toArray, List.set_cons_zero, List.set_cons_succ]
                refine hreg_take (i := 17) rfl (by kernel_rfl) (by kernel_rfl) (by kernel_rfl) hreg_panic (by rfl) hHeld ?_
                apply Exists.intro
                refine ⟨fun w' hw' => ?_, ?_⟩
                · have hf := hall w' hw'
                  go_simp
                  try go_bits
                  exact yieldsV_mk rfl
                simp only [Act.put, List.setIfInBounds_toArray, List.set_cons_zero, List.set_cons_succ]
                refine hreg_take (i := 18) rfl (by kernel_rfl) (by kernel_rfl) (by kernel_rfl) hreg_panic (by rfl) hHeld ?_
                apply Exists.intro
                refine ⟨fun w' hw' => ?_, ?_⟩
                · have hf := hall w' hw'
                  go_simp
                  try go_bits
                  exact yieldsV_mk rfl
                simp only [Act.put, List.setIfInBounds_toArray, List.set_cons_zero, List.set_cons_succ]
                refine hreg_take (i := 19) rfl (by kernel_rfl) (by kernel_rfl) (by kernel_rfl) hreg_panic (by rfl) hHeld ?_
                apply Exists.intro
                refine ⟨fun w' hw' => ?_, ?_⟩
                · have hf := hall w' hw'
                  go_simp
                  try go_bits
                  exact yieldsV_mk rfl
                simp only [Act.put, List.setIfInBounds_toArray, List.set_cons_zero, List.set_cons_succ]
                refine hreg_take (i := 20) rfl (by kernel_rfl) (by kernel_rfl) (by kernel_rfl) hreg_panic (by rfl) hHeld ?_
                apply Exists.intro
                refine ⟨fun w' hw' => ?_, ?_⟩
                · have hf := hall w' hw'
                  go_simp
                  try go_bits
                  exact yieldsV_mk rfl
                simp only [Act.put, List.setIfInBounds_toArray, List.set_cons_zero, List.set_cons_succ]
                refine hreg_take (i := 21) rfl (by kernel_rfl) (by kernel_rfl) (by kernel_rfl) hreg_panic (by rfl) hHeld ?_
                apply Exists.intro
                refine ⟨fun w' hw' => ?_, ?_⟩
                · have hf := hall w' hw'
                  go_simp
                  try go_bits
                  exact yieldsV_mk rfl
                simp only [Act.put, List.setIfInBounds_toArray, List.set_cons_zero, List.set_cons_succ]
                refine hreg_take (i := 22) rfl (by kernel_rfl) (by kernel_rfl) (by kernel_rfl) hreg_panic (by rfl) hHeld ?_
                apply Exists.intro
                refine ⟨fun w' hw' => ?_, ?_⟩
                · have hf := hall w' hw'
                  go_simp
                  try go_bits
                  exact yieldsV_mk rfl
                simp only [Act.put, List.setIfInBounds_toArray, List.set_cons_zero, List.set_cons_succ]
                refine hreg_take (i := 23) rfl (by kernel_rfl) (by kernel_rfl) (by kernel_rfl) hreg_panic (by rfl) hHeld ?_
                apply Exists.intro
                refine ⟨fun w' hw' => ?_, ?_⟩
                · have hf := hall w' hw'
                  go_simp
                  try go_bits
                  exact yieldsV_mk rfl
                simp only [Act.put, List.setIfInBounds_toArray, List.set_cons_zero, List.set_cons_succ]
                refine wpAnyH_ready (rs := [24]) (by kernel_rfl) (by simp) ?_
                refine hreg_event (o := _) rfl (by rfl) (fun K hK => ?_) ?_
                · go_simp
                  first
                    | (go_at_call 16; refine (has_n a' n' c' (ringL X) kk _ (SL.below hR9.keys hHeld.out) (by omega)).mono ?_; rintro e wn ⟨rfl, hb⟩)
                    | skip
                  refine hK.out _ _ ?_ (fun hHeld' => ?_)
                  · first
                      | exact hHeld.next hb
                      | exact hHeld
                      | exact hHeld.alloc _
                      | exact hHeld.setCell (by simp <;> omega) _
                      | exact (hHeld.alloc _).alloc _
                  replace hHeld := hHeld'
                  clear hHeld' hK K
                  simp only [Act.put, List.setIfInBounds_toArray, List.set_cons_zero, List.set_cons_succ]
                  refine hreg_take (i := 25) rfl (by kernel_rfl) (by kernel_rfl) (by kernel_rfl) hreg_panic (by rfl) hHeld ?_
                  apply Exists.intro
                  refine ⟨fun w' hw' => ?_, ?_⟩
                  · have hf := hall w' hw'
                    go_simp
                    try go_bits
                    exact yieldsV_mk rfl
                  simp only [Act.put, List.setIfInBounds_toArray, List.set_cons_zero, List.set_cons_succ]
                  refine hreg_take (i := 26) rfl (by kernel_rfl) (by kernel_rfl) (by kernel_rfl) hreg_panic (by rfl) hHeld ?_
                  apply Exists.intro
                  refine ⟨fun w' hw' => ?_, ?_⟩
                  · have hf := hall w' hw'
                    go_simp
                    try go_bits
                    exact yieldsV_mk rfl
                  simp only [Act.put, List.setIfInBounds_toArray, List.set_cons_zero, List.set_cons_succ]
                  refine hreg_take (i := 27) rfl (by kernel_rfl) (by kernel_rfl) (by kernel_rfl) hreg_panic (by rfl) hHeld ?_
                  apply Exists.intro
                  refine ⟨fun w' hw' => ?_, ?_⟩
                  · have hf := hall w' hw'
                    go_simp
                    try go_bits
                    exact yieldsV_mk rfl
                  simp only [Act.put, List.setIfInBounds_toArray, List.set_cons_zero, List.set_cons_succ]
                  refine wpAnyH_done (by kernel_rfl) ?_ _
                  refine NoPanic.normal ?_
                  go_wp2
                  all_goals
                    go_ret
                    exact gives_bool (by have := hmin.out; simp; omega) (since_next (since_next (since_next (since_next hbL hSw) hb6) hb9) hHeld.out)
                exact AllReadyH.nil
              exact AllReadyH.nil

end Go.Proofs.Ytpgaibihfplhcaa
