/- Layer 8: the reference's contracts. -/
import Derived.Test.YtpgaibihfplhcaaAnchor2
namespace Go.Proofs.Ytpgaibihfplhcaa
open Go.RowKit
set_option linter.unusedVariables false
set_option linter.unusedSimpArgs false
attribute [local go_sem ↓] load_key store_key alloc_key build0_key one_key make_key copy_key append_key eq_key build1_key build2_key
attribute [local go_sem] rowOf_drew rowOf_alloc_old rowOf_alloc_new canPut_drew canPut_alloc_old canPut_alloc_new setCells_alloc_new

theorem add_block (x : Addr) (m : Nat) : (x.add m).block = x.block := by unfold Addr.add; split <;> rfl

theorem rlast_n (a : Option Addr) (n cap : Nat) (l : List Key) (w : World) (h : KS w a n cap l) (hl : n ≤ 100000) :
    Calls Try.prog 31 #[.agg #[.slice a n cap]] w (Gives (.tuple #[.agg (keyC (lastK l)).toArray, .bool (!l.isEmpty)]) w) := by
  obtain rfl := h.1
  by_cases hne : l = []
  · subst hne
    go_enter Try.func31, Try.ntmps31
    go_wp2_with fail
    refine bodyPost_ret (v := .tuple #[.agg (keyC zeroKey).toArray, .bool false]) (res2 Try.results31 (res_key (b := w.heap.size + 1) (o := 0) (by simp [go_sem]) (by simp [go_sem])) (by simp [oneRes, go_sem])) rfl ?_
    exact ⟨rfl, (((Below.refl _ _).alloc (by simp) _).alloc (by simp <;> omega) _)⟩
  · obtain ⟨b, o, rfl, hb, hr⟩ := KL.at h (lastK_get hne)
    have h0 : l.length ≠ 0 := fun h => hne (List.length_eq_zero_iff.1 h)
    have hcap := h.2.1
    clear h
    have he : l.isEmpty = false := by cases l with | nil => exact absurd rfl hne | cons _ _ => rfl
    have HE := Lib.hid he
    clear he
    obtain ⟨q0, q1, q2, q3, q4, q5, q6, q7, q8⟩ := old_facts hb
    go_enter Try.func31, Try.ntmps31
    go_wp2_with fail
    refine bodyPost_ret (v := .tuple #[.agg (keyC (lastK l)).toArray, .bool true]) (res2 Try.results31 (res_key (b := w.heap.size + 1) (o := 0) (by simp [go_sem]) (by simp [go_sem])) (by simp [oneRes, go_sem])) rfl ?_
    exact ⟨by rw [HE.out]; rfl, (((Below.refl _ _).alloc (by simp) _).alloc (by simp <;> omega) _)⟩

set_option maxHeartbeats 400000 in
theorem rhas_n (a : Option Addr) (n cap : Nat) (l : List Key) (k : Key) (w : World) (h : KS w a n cap l) (hl : n ≤ 100000) :
    Calls Try.prog 33 #[.agg #[.slice a n cap], .agg (keyC k).toArray] w (Gives (.bool (hasB l k)) w) := by
  obtain rfl := h.1
  have H := Lib.hid h
  have hcap := h.2.1
  clear h
  go_enter Try.func33, Try.ntmps33
  go_wp2_with fail
  all_goals
    obtain ⟨W, hW⟩ : ∃ W, W = (w.alloc (.cells #[.slice a l.length cap] 60)).alloc (.cells (keyC k).toArray 23) := ⟨_, rfl⟩
    have hWs : W.heap.size = w.heap.size + 1 + 1 := by rw [hW]; simp
    have hWb : Below w.heap.size w W := by rw [hW]; exact (((Below.refl _ _).alloc (by simp) _).alloc (by simp <;> omega) _)
    have hWk : rowOf W (w.heap.size + 1) 0 32 = some (keyC k) := by rw [hW]; simp [go_sem]
    have hWc : W.cell? ⟨w.heap.size, 0, none⟩ = some (.slice a l.length cap) := by rw [hW]; simp [go_sem]
    rw [← hW]
    replace hW := Lib.hid hW
    go_loopw [5] (fun i wr => Since W wr ∧ ∃ j : Nat, j ≤ l.length ∧ i = .int .i64 j ∧ hasB l k = anyK (l.drop j) k) (fun i _ => l.length - (intOf i).toNat)
    case atStart => exact ⟨Below.refl _ _, l.length - 4, by omega, by first | rfl | (congr 1; omega), rfl⟩
    case round =>
      obtain ⟨hSi, j, hj, rfl, hfi⟩ := hrel
      have hsz := hSi.size
      have C1 : wr.cell? ⟨w.heap.size, 0, none⟩ = some (.slice a l.length cap) := by rw [hSi.cell (p := ⟨w.heap.size, 0, none⟩) (by simp; omega)]; exact hWc
      have R1 : rowOf wr (w.heap.size + 1) 0 32 = some (keyC k) := by rw [rowOf_congr (hSi.block _ (by omega))]; exact hWk
      have hs1 : w.heap.size + 1 < wr.heap.size := by omega
      have hs2 : w.heap.size < wr.heap.size := by omega
      have HF := Lib.hid hfi
      clear hfi
      by_cases hlt : j < l.length
      · have hx : l[j]? = some l[j] := List.getElem?_eq_getElem hlt
        obtain ⟨b', o', ha, hb', hr⟩ := KL.at (h := H.out) hx
        subst ha
        have R2 : rowOf wr b' (o' + j * 32) 32 = some (keyC l[j]) := by rw [rowOf_congr (hSi.block _ (by omega)), rowOf_congr (hWb.block _ hb')]; exact hr
        have hs3 : b' < wr.heap.size := by omega
        clear hr
        have hd : l.drop j = l[j] :: l.drop (j + 1) := List.drop_eq_getElem_cons hlt
        generalize l[j] = x at *
        have HD := Lib.hid hd
        clear hd hx
        cases hxk : (x == k)
        · go_wp2
          (refine region_since (by kernel_rfl) (by kernel_rfl) ?_)
          repeat (first
            | (refine wpQuiet_goff rfl rfl rfl rfl ?_; simp only [Act.put, List.setIfInBounds_toArray, List.set_cons_succ, List.set_cons_zero])
            | (first
                 | refine wpQuiet_free rfl ?_
                 | refine wpQuiet_gon rfl rfl rfl rfl ?_
               apply Exists.intro
               refine ⟨fun w' hw' => ?_, ?_⟩
               · (obtain ⟨hc', hr', hs'⟩ := since_facts hw'
                  unfold Oper.quietAt
                  go_simp
                  try go_bits
                  first
                    | exact quietUpon_value rfl
                    | (apply quietUpon_enter
                       first
                       | fail))
               simp only [Act.put, List.setIfInBounds_toArray, List.set_cons_succ, List.set_cons_zero]))
          first
            | refine wpQuiet_nil ?_
            | fail "QUIET stopped"
          intro wq hwq'
          go_wp2
          go_roundw
          case rel => exact ⟨Below.of hwq' hSi.size hSi, j + 1, by omega, by go_num, by rw [HF.out, HD.out, anyK, List.any_cons, hxk]; rfl⟩
          case measure => simp [intOf]; omega
        · go_wp2
          (refine region_since (by kernel_rfl) (by kernel_rfl) ?_)
          repeat (first
            | (refine wpQuiet_goff rfl rfl rfl rfl ?_; simp only [Act.put, List.setIfInBounds_toArray, List.set_cons_succ, List.set_cons_zero])
            | (first
                 | refine wpQuiet_free rfl ?_
                 | refine wpQuiet_gon rfl rfl rfl rfl ?_
               apply Exists.intro
               refine ⟨fun w' hw' => ?_, ?_⟩
               · (obtain ⟨hc', hr', hs'⟩ := since_facts hw'
                  unfold Oper.quietAt
                  go_simp
                  try go_bits
                  first
                    | exact quietUpon_value rfl
                    | (apply quietUpon_enter
                       first
                       | fail))
               simp only [Act.put, List.setIfInBounds_toArray, List.set_cons_succ, List.set_cons_zero]))
          first
            | refine wpQuiet_nil ?_
            | fail "QUIET stopped"
          intro wq hwq'
          go_wp2
          go_ret
          exact gives_bool (by rw [HF.out, HD.out, anyK, List.any_cons, hxk]; rfl) (Below.of (Below.of hwq' hSi.size hSi) (by omega) hWb)
      · obtain rfl : j = l.length := by omega
        go_wp2
        go_ret
        exact gives_bool (by rw [HF.out, List.drop_length]; rfl) (Below.of hSi (by omega) hWb)

theorem putL_drop (l : List Key) (k : Key) : putL l k = if 8 < l.length + 1 then (l ++ [k]).drop (l.length + 1 - 8) else l ++ [k] := by
  unfold putL lastN
  split
  · simp
  · rw [List.length_append, List.length_singleton, show l.length + 1 - 8 = 0 from by omega]; simp

set_option maxHeartbeats 400000 in
theorem rput_n (a : Option Addr) (n cap : Nat) (l : List Key) (k : Key) (w : World) (h : KS w a n cap l) (hl : n ≤ 100000) :
    Calls Try.prog 29 #[.agg #[.slice a n cap], .agg (keyC k).toArray] w (RPost (putL l k) w) := by
  have HN := Lib.hid h.1
  have H := Lib.hid h
  clear h
  go_enter Try.func29, Try.ntmps29
  go_wp2_with fail
  obtain ⟨W, hW⟩ : ∃ W, W = ((w.alloc (.cells #[.slice a n cap] 60)).alloc (.cells (keyC k).toArray 23)).alloc (.cells #[.slice none 0 0] 60) := ⟨_, rfl⟩
  have hWs : W.heap.size = w.heap.size + 1 + 1 + 1 := by rw [hW]; simp
  have hWb : Below w.heap.size w W := by rw [hW]; exact (((Below.refl _ _).alloc (by simp) _).alloc (by simp <;> omega) _).alloc (by simp <;> omega) _
  have hWk : rowOf W (w.heap.size + 1) 0 32 = some (keyC k) := by rw [hW]; simp [go_sem]
  have hWc : W.cell? ⟨w.heap.size + 1 + 1, 0, none⟩ = some (.slice none 0 0) := by rw [hW]; simp [go_sem]
  have hWf : W.frozen? ⟨w.heap.size + 1 + 1, 0, none⟩ = false := by rw [hW]; simp [go_sem]
  have hKW : SL keyC 32 W a n cap l := SL.below H.out hWb
  rw [← hW, ← hWs]
  replace hW := Lib.hid hW
  obtain ⟨u1, n1, c1, w1, hap, hown, hb1, hs1, hn1⟩ := app_k (ty := 24) (Own.empty keyC 32 23 W W.heap.size W.heap.size rfl (Nat.le_refl _)) (by simp) a n cap l (SL.alloc hKW _) (by rw [← HN.out]; simp; omega)
  rw [hap]
  have hB1 : Below W.heap.size W w1 := Below.trans ((Below.refl _ _).alloc (by simp) _) hb1
  have hk1 : rowOf w1 (w.heap.size + 1) 0 32 = some (keyC k) := by rw [rowOf_congr (hB1.block _ (by omega))]; exact hWk
  have hw1 : w.heap.size + 1 < w1.heap.size := by have := hB1.size; omega
  replace hown := Lib.hid hown
  replace hn1 := Lib.hid hn1
  replace hap := Lib.hid hap
  go_wp2_with fail
  obtain ⟨u2, n2, c2, w2, hap2, hown2, hb2, hs2, hn2⟩ := app_k1 (ty := 24) hown.out hB1.size k (by rw [List.nil_append, ← HN.out]; omega)
  rw [hap2]
  have hB2 : Below W.heap.size W w2 := Below.trans hB1 hb2
  have hc2 : w2.cell? ⟨w.heap.size + 1 + 1, 0, none⟩ = some (.slice none 0 0) := by rw [hB2.cell (p := ⟨w.heap.size + 1 + 1, 0, none⟩) (by simp; omega)]; exact hWc
  have hf2 : w2.frozen? ⟨w.heap.size + 1 + 1, 0, none⟩ = false := by rw [hB2.frozen (p := ⟨w.heap.size + 1 + 1, 0, none⟩) (by simp; omega)]; exact hWf
  have hlen : n2 = n + 1 := by rw [hn2, HN.out]; simp
  have hncap : n2 ≤ c2 := hown2.sl'.2.2.1
  replace hown2 := Lib.hid hown2
  replace hn2 := Lib.hid hn2
  replace hap2 := Lib.hid hap2
  subst hlen
  go_wp2_with fail
  all_goals
    have hO := hown2.out.sl'.2
    rw [List.nil_append] at hO
    have hF : Fresh w.heap.size u2 := by
      rcases hown2.out.form with ⟨h1, _⟩ | ⟨g', _, h1, h2, _⟩
      · injection h1 with h1; subst h1; nofun
      · injection h1 with h1; subst h1; exact fresh_some (by omega)
    have hF' : ∀ x, u2 = some x → x.block ≠ w.heap.size + 1 + 1 := by
      rcases hown2.out.form with ⟨h1, _⟩ | ⟨g', _, h1, h2, _⟩
      · injection h1 with h1; subst h1; nofun
      · injection h1 with h1; subst h1; intro x hx; injection hx with hx; subst hx; simp; omega
    have hBw : Below w.heap.size w w2 := Below.trans hWb (hB2.mono (by omega))
    first
    | (rename_i hle
       exfalso; omega)
    | (have hle : n + 1 ≤ 8 := by omega
       refine bodyPost_ret (v := .agg #[.slice u2 (n + 1) c2]) (by simp [results, Try.results29, go_sem, hc2]) rfl ?_
       have hP : putL l k = l ++ [k] := by rw [putL_drop, if_neg (by rw [← HN.out]; omega)]
       rw [hP]
       exact ⟨u2, n + 1, c2, rfl, SL.setCell hO _ _ _ hF', Below.setCell hBw (by simp; omega) _, hF, by rw [List.length_append, ← HN.out]; rfl, hO.2.1, hO.2.2.1⟩)
    | (have hgt : 8 < n + 1 := by omega
       refine bodyPost_ret (v := .agg #[.slice (u2.map (fun x => x.add ((n - 7) * 32))) (n + 1 - (n - 7)) (c2 - (n - 7))]) (by simp [results, Try.results29, go_sem, hc2]) rfl ?_
       have hP : putL l k = (l ++ [k]).drop (n - 7) := by rw [putL_drop, if_pos (by rw [← HN.out]; omega), ← HN.out]; congr 1
       have hlL : (l ++ [k]).length = n + 1 := by rw [List.length_append, ← HN.out]; rfl
       have hD := SL.drop keyC_length hO (n - 7) (by omega) (c2 - (n - 7)) (by omega) (by have := hO.2.2.1; omega) (fun h => by have := hO.2.2.2.1 h; omega)
       have hif : ¬ n + 1 = n - 7 := by omega
       simp only [hlL, hif, if_false] at hD
       rw [hP]
       exact ⟨_, _, _, rfl, SL.setCell hD _ _ _ (by intro x hx; obtain ⟨y, hy, rfl⟩ := Option.map_eq_some_iff.1 hx; rw [add_block]; exact hF' y hy), Below.setCell hBw (by simp; omega) _, (by intro x hx; obtain ⟨y, hy, rfl⟩ := Option.map_eq_some_iff.1 hx; rw [add_block]; exact hF y hy), by rw [List.length_drop, hlL], by omega, by have := hO.2.2.1; omega⟩)

set_option maxHeartbeats 400000 in
theorem rback_n (a : Option Addr) (n cap : Nat) (l : List Key) (w : World) (h : KS w a n cap l) (hl : n ≤ 100000) :
    Calls Try.prog 30 #[.agg #[.slice a n cap]] w (BPost l w) := by
  have HN := Lib.hid h.1
  have hcap := h.2.1
  have H := Lib.hid h
  clear h
  by_cases h2 : n < 2
  · go_enter Try.func30, Try.ntmps30
    go_wp2_with fail
    refine bodyPost_ret (v := .tuple #[.agg #[.slice none 0 0], .int .i64 166]) (by simp [results, Try.results30, go_sem]) rfl ?_
    unfold BPost backE backL
    rw [if_pos (by rw [← HN.out]; exact h2), if_pos (by rw [← HN.out]; exact h2)]
    exact ⟨none, 0, 0, rfl, ⟨rfl, Nat.le_refl _, by decide, fun _ => rfl, fun h => absurd rfl h⟩, ((Below.refl _ _).alloc (by simp) _).alloc (by simp <;> omega) _, nofun, rfl, Nat.le_refl _, by decide⟩
  · go_enter Try.func30, Try.ntmps30
    go_wp2_with fail
    obtain ⟨W, hW⟩ : ∃ W, W = (w.alloc (.cells #[.slice a n cap] 60)).alloc (.cells #[.slice none 0 0] 60) := ⟨_, rfl⟩
    have hWs : W.heap.size = w.heap.size + 1 + 1 := by rw [hW]; simp
    have hWb : Below w.heap.size w W := by rw [hW]; exact (((Below.refl _ _).alloc (by simp) _).alloc (by simp <;> omega) _)
    have hWc : W.cell? ⟨w.heap.size + 1, 0, none⟩ = some (.slice none 0 0) := by rw [hW]; simp [go_sem]
    have hWf : W.frozen? ⟨w.heap.size + 1, 0, none⟩ = false := by rw [hW]; simp [go_sem]
    have hKW : SL keyC 32 W a (n - 1) cap (l.take (n - 1)) := SL.below (SL.take keyC_length H.out (n - 1) (by rw [← HN.out]; omega)) hWb
    have htl : (l.take (n - 1)).length = n - 1 := by rw [List.length_take, ← HN.out]; omega
    have hdl : l.dropLast = l.take (n - 1) := by rw [HN.out]; exact List.dropLast_eq_take
    rw [← hW, ← hWs]
    replace hW := Lib.hid hW
    obtain ⟨u1, n1, c1, w1, hap, hown, hb1, hs1, hn1⟩ := app_k (ty := 24) (Own.empty keyC 32 23 W W.heap.size W.heap.size rfl (Nat.le_refl _)) (by simp) a (n - 1) cap (l.take (n - 1)) (SL.alloc hKW _) (by rw [htl]; simp; omega)
    rw [hap]
    rw [List.nil_append] at hown
    have hB1 : Below W.heap.size W w1 := Below.trans ((Below.refl _ _).alloc (by simp) _) hb1
    have hw1 : w.heap.size + 1 < w1.heap.size := by have := hB1.size; omega
    have hc2 : w1.cell? ⟨w.heap.size + 1, 0, none⟩ = some (.slice none 0 0) := by rw [hB1.cell (p := ⟨w.heap.size + 1, 0, none⟩) (by simp; omega)]; exact hWc
    have hf2 : w1.frozen? ⟨w.heap.size + 1, 0, none⟩ = false := by rw [hB1.frozen (p := ⟨w.heap.size + 1, 0, none⟩) (by simp; omega)]; exact hWf
    rw [htl] at hn1
    replace hown := Lib.hid hown
    replace hn1 := Lib.hid hn1
    replace hap := Lib.hid hap
    replace htl := Lib.hid htl
    replace hdl := Lib.hid hdl
    go_wp2_with fail
    have hO := hown.out.sl'.2
    have hF : Fresh w.heap.size u1 := by
      rcases hown.out.form with ⟨h1, _⟩ | ⟨g', _, h1, h2, _⟩
      · injection h1 with h1; subst h1; nofun
      · injection h1 with h1; subst h1; exact fresh_some (by omega)
    have hF' : ∀ x, u1 = some x → x.block ≠ w.heap.size + 1 := by
      rcases hown.out.form with ⟨h1, _⟩ | ⟨g', _, h1, h2, _⟩
      · injection h1 with h1; subst h1; nofun
      · injection h1 with h1; subst h1; intro x hx; injection hx with hx; subst hx; simp; omega
    refine bodyPost_ret (v := .tuple #[.agg #[.slice u1 n1 c1], .int .i64 0]) (by simp [results, Try.results30, go_sem, hc2]) rfl ?_
    unfold BPost backE backL
    rw [if_neg (by rw [← HN.out]; exact h2), if_neg (by rw [← HN.out]; exact h2), hdl.out]
    exact ⟨u1, n1, c1, rfl, SL.setCell hO _ _ _ hF', Below.setCell (Below.trans hWb (hB1.mono (by omega))) (by simp) _, hF, by rw [htl.out]; simpa using hn1.out, hO.2.1, hO.2.2.1⟩

/-- Are they the same keys? -/
theorem same_n (a b : Option Addr) (n m c d : Nat) (l r : List Key) (w : World) (h : KS w a n c l) (h' : KS w b m d r) (hl : n ≤ 100000) :
    Calls Try.prog 32 #[.slice a n c, .slice b m d] w (Gives (.bool (l == r)) w) := by
  obtain rfl := h.1
  obtain rfl := h'.1
  have H := Lib.hid h
  have H' := Lib.hid h'
  have hcl := h.2.1
  have hcr := h'.2.1
  clear h h'
  by_cases hlen : l.length = r.length
  · go_enter Try.func32, Try.ntmps32
    go_wp2_with fail
    go_loopw [5] (fun i wr => Since w wr ∧ ∃ j : Nat, j ≤ l.length ∧ i = .int .i64 j ∧ (l == r) = (l.drop j == r.drop j)) (fun i _ => l.length - (intOf i).toNat)
    case atStart => exact ⟨Below.refl _ _, 0, by omega, rfl, rfl⟩
    case round =>
      obtain ⟨hSi, j, hj, rfl, hfi⟩ := hrel
      have hsz := hSi.size
      have HF := Lib.hid hfi
      clear hfi
      by_cases hlt : j < l.length
      · have hx : l[j]? = some l[j] := List.getElem?_eq_getElem hlt
        have hlt' : j < r.length := by omega
        have hy : r[j]? = some r[j] := List.getElem?_eq_getElem hlt'
        obtain ⟨b1, o1, ha, hb1, hr1⟩ := KL.at (h := H.out) hx
        obtain ⟨b2, o2, hb, hb2, hr2⟩ := KL.at (h := H'.out) hy
        subst ha hb
        have R1 : rowOf wr b1 (o1 + j * 32) 32 = some (keyC l[j]) := by rw [rowOf_congr (hSi.block _ hb1)]; exact hr1
        have R2 : rowOf wr b2 (o2 + j * 32) 32 = some (keyC r[j]) := by rw [rowOf_congr (hSi.block _ hb2)]; exact hr2
        have hs1 : b1 < wr.heap.size := by omega
        have hs2 : b2 < wr.heap.size := by omega
        have hd : (l.drop j == r.drop j) = (l[j] == r[j] && l.drop (j + 1) == r.drop (j + 1)) := by
          rw [List.drop_eq_getElem_cons hlt, List.drop_eq_getElem_cons hlt', List.cons_beq_cons]
        generalize l[j] = x at *
        generalize r[j] = y at *
        have HD := Lib.hid hd
        clear hd hx hy hr1 hr2
        cases hxk : (x == y)
        · go_wp2
          (refine region_since (by kernel_rfl) (by kernel_rfl) ?_)
          repeat (first
            | (refine wpQuiet_goff rfl rfl rfl rfl ?_; simp only [Act.put, List.setIfInBounds_toArray, List.set_cons_succ, List.set_cons_zero])
            | (first
                 | refine wpQuiet_free rfl ?_
                 | refine wpQuiet_gon rfl rfl rfl rfl ?_
               apply Exists.intro
               refine ⟨fun w' hw' => ?_, ?_⟩
               · (obtain ⟨hc', hr', hs'⟩ := since_facts hw'
                  unfold Oper.quietAt
                  go_simp
                  try go_bits
                  first
                    | exact quietUpon_value rfl
                    | (apply quietUpon_enter
                       first
                       | fail))
               simp only [Act.put, List.setIfInBounds_toArray, List.set_cons_succ, List.set_cons_zero]))
          first
            | refine wpQuiet_nil ?_
            | fail "QUIET stopped"
          intro wq hwq'
          go_wp2
          go_ret
          exact gives_bool (by rw [HF.out, HD.out, hxk]; rfl) (Below.of hwq' hSi.size hSi)
        · go_wp2
          (refine region_since (by kernel_rfl) (by kernel_rfl) ?_)
          repeat (first
            | (refine wpQuiet_goff rfl rfl rfl rfl ?_; simp only [Act.put, List.setIfInBounds_toArray, List.set_cons_succ, List.set_cons_zero])
            | (first
                 | refine wpQuiet_free rfl ?_
                 | refine wpQuiet_gon rfl rfl rfl rfl ?_
               apply Exists.intro
               refine ⟨fun w' hw' => ?_, ?_⟩
               · (obtain ⟨hc', hr', hs'⟩ := since_facts hw'
                  unfold Oper.quietAt
                  go_simp
                  try go_bits
                  first
                    | exact quietUpon_value rfl
                    | (apply quietUpon_enter
                       first
                       | fail))
               simp only [Act.put, List.setIfInBounds_toArray, List.set_cons_succ, List.set_cons_zero]))
          first
            | refine wpQuiet_nil ?_
            | fail "QUIET stopped"
          intro wq hwq'
          go_wp2
          go_roundw
          case rel => exact ⟨Below.of hwq' hSi.size hSi, j + 1, by omega, by go_num, by rw [HF.out, HD.out, hxk]; rfl⟩
          case measure => simp [intOf]; omega
      · obtain rfl : j = l.length := by omega
        go_wp2
        go_ret
        exact gives_bool (by rw [HF.out, List.drop_length, hlen, List.drop_length]; rfl) hSi
  · go_enter Try.func32, Try.ntmps32
    go_wp2
    go_ret
    exact gives_bool (by rw [Bool.eq_iff_iff]; simp; intro h; exact hlen (by rw [h])) (Below.refl _ _)

end Go.Proofs.Ytpgaibihfplhcaa
