/- TreeHalves: where there are as many notes as a whole part has, its root is that of both halves. -/
import Derived.Test.YtabikhmaiennpaaTreeG
import Derived.Test.YtabikhmaiennpaaTreeHP
import Derived.Test.YtabikhmaiennpaaShaRef5
namespace Go.Proofs.Ytabikhmaiennpaa
open Go.RowKit
set_option linter.unusedVariables false
set_option linter.unusedSimpArgs false
set_option maxRecDepth 100000
/-- 'append' of a key to a slice of keys of the call's own. -/
theorem app_kh {w : World} {base : Nat} {u : Option Addr} {n0 c0 : Nat} {l : List Key} {ty : TypeId} (hown : KOwn w base (.slice u n0 c0) l) (hbase : base ≤ w.heap.size) (x : Key) (hlen : l.length + 1 ≤ 2000000) :
    ∃ g c' w', appTo Try.prog 33 ty (w.alloc (.cells (keyC x).toArray 23)) (.slice u n0 c0) (.slice (some ⟨w.heap.size, 0, none⟩) 1 1) = .ok (.value (.slice (some ⟨g, 0, none⟩) (l.length + 1) c')) w' ∧ KOwn w' base (.slice (some ⟨g, 0, none⟩) (l.length + 1) c') (l ++ [x]) ∧ Below base w w' := by
  have hB : Below w.heap.size w (w.alloc (.cells (keyC x).toArray 23)) := (Below.refl _ _).alloc (Nat.le_refl _) _
  have hnew : SL keyC 32 (w.alloc (.cells (keyC x).toArray 23)) (some ⟨w.heap.size, 0, none⟩) 1 1 [x] := by
    rw [← rows_one keyC x]
    exact SL.new keyC_length _ [x] _ _ rfl (by unfold maxLen; simp)
  obtain ⟨g, c', w', h1, h2, h3, h4⟩ := app_keys (ty := ty) (hown.below hB) (Nat.le_trans hbase hB.size) _ _ [x] hnew (by simp) (by simpa using hlen)
  exact ⟨g, c', w', h1, h2, (hB.mono hbase).trans (grown_below h3 (hown.below hB).ownBlock_le (Nat.le_trans hbase hB.size))⟩
/-- The notes, again and again. -/
def cyc (l : List Key) (j : Nat) : List Key := (List.range j).map fun i => l.getD (i % l.length) zeroKey
theorem cyc_length (l : List Key) (j : Nat) : (cyc l j).length = j := by unfold cyc; simp
theorem cyc_succ (l : List Key) (j : Nat) : cyc l (j + 1) = cyc l j ++ [l.getD (j % l.length) zeroKey] := by unfold cyc; rw [List.range_succ, List.map_append]; rfl
theorem wrap_pow (m : Nat) (hm : m < 4) : 2 ^ (m + 1) ≤ 16 ∧ 2 ≤ 2 ^ (m + 1) ∧ wrap64 (2 ^ (m + 1)) = ((2 ^ (m + 1) : Nat) : Int) := by
  rcases (show m = 0 ∨ m = 1 ∨ m = 2 ∨ m = 3 by omega) with rfl | rfl | rfl | rfl <;> exact ⟨by decide, by decide, by simp [wrap64]⟩
attribute [local irreducible] Int.lt Int.le
attribute [local go_sem ↓] load_key store_key alloc_key build0_key eq_key load_a33 store_a33 alloc_a33 load_tree store_tree alloc_tree build0_tree build1_key two_key eq_tree slice_hi slice_lo one_key append_key
attribute [local go_sem] rowOf_drew canPut_drew canPut_alloc_old canPut_alloc_new setCells_alloc_new treeC_g0
set_option maxHeartbeats 4000000 in
theorem treeHalves_walk (a : Option Addr) (cap : Nat) (l : List Key) (hgt : Nat) (hk8 : hgt ≤ 255) (W : World) (h : KL W a cap l) : Calls Try.prog 6 #[.slice a l.length cap, .int .u8 hgt] W (Gives (.bool true) W) := by
  have hcap := h.2.1
  have hmax : (cap : Int) ≤ 9223372036854775807 := by have := h.2.2.1; unfold maxLen at this; omega
  obtain ⟨m, hm, hm1, hm2⟩ : ∃ m : Nat, m < 4 ∧ (hgt : Int) % 4 = (m : Int) ∧ (hgt : Int).tmod 4 = (m : Int) := ⟨hgt % 4, Nat.mod_lt _ (by decide), by simp, by rw [Int.tmod_eq_emod_of_nonneg (by omega)]; simp⟩
  obtain ⟨n2, hn2⟩ : ∃ n : Nat, 2 ^ m = n := ⟨_, rfl⟩
  obtain ⟨n, hn⟩ : ∃ n : Nat, 2 ^ (m + 1) = n := ⟨_, rfl⟩
  obtain ⟨k, hkm⟩ : ∃ n : Nat, m + 1 = n := ⟨_, rfl⟩
  have hnn : n = n2 + n2 := by rw [← hn, ← hn2, Nat.pow_succ]; omega
  have hN16 : n ≤ 16 ∧ 2 ≤ n ∧ wrap64 (2 ^ k) = (n : Int) := by
    rw [← hn, ← hkm]; exact wrap_pow m hm
  obtain ⟨hn16, hn1, hwr⟩ := hN16
  have hk1 : (1 : Int) + (m : Int) = (k : Int) := by omega
  have hk2 : (k : Int) - 1 = (m : Int) := by omega
  have hq1 : (n : Int) / 2 = (n2 : Int) := by omega
  have hq2 : (n : Int).tdiv 2 = (n2 : Int) := by rw [Int.tdiv_eq_ediv_of_nonneg (by omega)]; exact hq1
  have hn32 : (n : Int) % 4294967296 = (n : Int) := by omega
  replace hn := Box.mk hn
  replace hn2 := Box.mk hn2
  replace hnn := Box.mk hnn
  replace hkm := Box.mk hkm
  by_cases h0 : l.length = 0
  · have h00 : (l.length : Int) = 0 := by omega
    replace h := Box.mk h
    replace h0 := Box.mk h0
    go_enter Try.func6, Try.ntmps6
    go_wp2_with fail
    refine (shown07_any W).mono ?_
    rintro e w1 ⟨rfl, b1⟩
    go_wp2
    go_ret
    exact gives_bool rfl b1
  have hl0 : ((l.length : Int) == 0) = false := by rw [beq_eq_false_iff_ne]; omega
  by_cases h60 : (60 : Int) < l.length
  · replace h := Box.mk h
    go_enter Try.func6, Try.ntmps6
    go_wp2_with fail
    refine (shown07_any W).mono ?_
    rintro e w1 ⟨rfl, b1⟩
    go_wp2
    go_ret
    exact gives_bool rfl b1
  replace h := Box.mk h
  replace h0 := Box.mk h0
  go_enter Try.func6, Try.ntmps6
  go_wp2_with fail
  refine (shown07_any W).mono ?_
  rintro e w1 ⟨rfl, b1⟩
  replace b1 := Box.mk b1
  have hs1 : (w1.alloc (.cells #[] 23)).heap.size = w1.heap.size + 1 := by simp
  have hO0 : KOwn (w1.alloc (.cells #[] 23)) W.heap.size (.slice (some ⟨w1.heap.size, 0, none⟩) 0 0) (cyc l 0) := Own.empty keyC 32 23 w1 W.heap.size w1.heap.size rfl b1.out.size
  have B0 := Box.mk (b1.out.alloc b1.out.size (.cells #[] 23))
  replace hO0 := Box.mk hO0
  replace hs1 := Box.mk hs1
  go_wp2_with fail
  generalize w1.alloc (.cells #[] 23) = w2 at *
  go_loopw [7, 8] (fun v i wr => Below W.heap.size W wr ∧ ∃ j : Nat, j ≤ n ∧ i = .int .i64 j ∧ ∃ g c, v = .slice (some ⟨g, 0, none⟩) j c ∧ KOwn wr W.heap.size v (cyc l j)) (fun _ i _ => n - (intOf i).toNat)
  case atStart => exact ⟨B0.out, 0, Nat.zero_le _, rfl, _, _, rfl, hO0.out⟩
  case round =>
    obtain ⟨hb, j, hj, rfl, g, c, rfl, hO⟩ := hrel
    by_cases hlt : j < n
    · have hlt' : (j : Int) < n := by omega
      have hl00 : l.length ≠ 0 := h0.out
      have hl01 : (l.length : Int) ≠ 0 := by omega
      obtain ⟨r, hr, hr1, hr2⟩ : ∃ r : Nat, r = j % l.length ∧ (j : Int) % (l.length : Int) = (r : Int) ∧ (j : Int).tmod (l.length : Int) = (r : Int) := ⟨j % l.length, rfl, by simp, by rw [Int.tmod_eq_emod_of_nonneg (by omega)]; simp⟩
      have hrl : r < l.length := by rw [hr]; exact Nat.mod_lt _ (by omega)
      have hrl' : (r : Int) < l.length := by omega
      obtain ⟨x, hx⟩ : ∃ x, l[r]? = some x := ⟨_, List.getElem?_eq_getElem hrl⟩
      have hcy : cyc l (j + 1) = cyc l j ++ [x] := by rw [cyc_succ, ← hr, List.getD_eq_getElem?_getD, hx]; rfl
      obtain ⟨bk, o, hae, hbk, hrw⟩ := h.out.at hx
      have R1 : rowOf wr bk (o + r * 32) 32 = some (keyC x) := by rw [rowOf_congr (hb.block bk hbk)]; exact hrw
      have hbkw : bk < wr.heap.size := Nat.lt_of_lt_of_le hbk hb.size
      have hjl := cyc_length l j
      obtain ⟨g', c', w5, hap, hO5, hb5⟩ := app_kh (ty := 33) hO hb.size x (by rw [hjl]; omega)
      rw [hjl] at hap hO5
      rw [← hcy] at hO5
      have B5 := Box.mk (hb.trans hb5)
      subst hae
      replace h := Box.mk h.out
      replace hr := Box.mk hr
      replace hx := Box.mk hx
      replace hrw := Box.mk hrw
      replace hcy := Box.mk hcy
      replace hO := Box.mk hO
      replace hO5 := Box.mk hO5
      replace hb := Box.mk hb
      replace hb5 := Box.mk hb5
      replace hap := Box.mk hap
      replace hjl := Box.mk hjl
      go_wp2_with fail
      rw [hap.out]
      go_wp2
      go_roundw
      case rel => exact ⟨B5.out, j + 1, by omega, by go_num, _, _, rfl, hO5.out⟩
      case measure => simp [intOf]; omega
    · obtain rfl : j = n := by omega
      have hSL := hO.sl'.2
      have hLl := cyc_length l j
      have hP := halves m (by omega) (cyc l j) (by rw [hLl]; exact hn.out.symm)
      rw [hn2.out, hn.out, hkm.out] at hP
      generalize cyc l j = L at *
      have hKL : KL wr (some ⟨g, 0, none⟩) c L := by
        show SL keyC 32 wr _ L.length c L
        rw [hLl]; exact hSL
      have hnj := hnn.out
      have hjc : j ≤ c := by have := hKL.2.1; omega
      obtain ⟨s1, L1⟩ := hKL.hi n2 (by omega)
      obtain ⟨ya, yc, s2, L2⟩ := hKL.lo n2 (by omega)
      have m1 : (L.take n2).length ≤ 60 := by rw [List.length_take]; omega
      have m2 : (L.drop n2).length ≤ 60 := by rw [List.length_drop]; omega
      have cA := fun w (hw : KL w (some ⟨g, 0, none⟩) c (L.take n2)) => of_any (some ⟨g, 0, none⟩) c (L.take n2) w hw (by omega)
      have cB := fun w (hw : KL w ya yc (L.drop n2)) => of_any ya yc (L.drop n2) w hw (by omega)
      have cT := fun w (hw : KL w (some ⟨g, 0, none⟩) c L) => of_any (some ⟨g, 0, none⟩) c L w hw (by omega)
      rw [hLl] at s1 s2 cT
      obtain ⟨x, y, p1, p2, p3, p4, p5⟩ := hP
      generalize putsT zeroTree (L.take n2) = tA at *
      generalize putsT zeroTree (L.drop n2) = tB at *
      generalize putsT zeroTree L = tT at *
      generalize L.take n2 = l1 at *
      generalize L.drop n2 = l2 at *
      replace hO := Box.mk hO
      replace hSL := Box.mk hSL
      replace hLl := Box.mk hLl
      replace hKL := Box.mk hKL
      replace L1 := Box.mk L1
      replace L2 := Box.mk L2
      replace cA := Box.mk cA
      replace cB := Box.mk cB
      replace cT := Box.mk cT
      replace p1 := Box.mk p1
      replace p2 := Box.mk p2
      replace p3 := Box.mk p3
      replace p4 := Box.mk p4
      replace p5 := Box.mk p5
      replace m1 := Box.mk m1
      replace m2 := Box.mk m2
      replace hnj := Box.mk hnj
      replace hb := Box.mk hb
      go_wp2_with fail
      refine (cA.out wr L1.out).mono ?_
      rintro e w3 ⟨rfl, b3⟩
      have b4 := b3.alloc b3.size (.cells (treeC tA).toArray 28)
      have hA4 : TB (w3.alloc (.cells (treeC tA).toArray 28)) w3.heap.size tA := heap_alloc_new w3 _
      have B4 := Box.mk (hb.out.trans (b4.mono hb.out.size))
      have L24 := Box.mk (L2.out.below b4)
      have KL4 := Box.mk (hKL.out.below b4)
      obtain ⟨ab, hab⟩ : ∃ n, w3.heap.size = n := ⟨_, rfl⟩
      rw [hab] at hA4
      replace b3 := Box.mk b3
      replace b4 := Box.mk b4
      replace hA4 := Box.mk hA4
      go_wp2_with fail
      generalize w3.alloc (.cells (treeC tA).toArray 28) = w4 at *
      replace hab := Box.mk hab
      refine (cB.out w4 L24.out).mono ?_
      rintro e w5 ⟨rfl, b5⟩
      have b6 := b5.alloc b5.size (.cells (treeC tB).toArray 28)
      have hB6 : TB (w5.alloc (.cells (treeC tB).toArray 28)) w5.heap.size tB := heap_alloc_new w5 _
      have hA6 := Box.mk (hA4.out.below b6)
      have B6 := Box.mk (B4.out.trans (b6.mono B4.out.size))
      have KL6 := Box.mk (KL4.out.below b6)
      obtain ⟨bb, hbb⟩ : ∃ n, w5.heap.size = n := ⟨_, rfl⟩
      rw [hbb] at hB6
      replace b5 := Box.mk b5
      replace b6 := Box.mk b6
      replace hB6 := Box.mk hB6
      go_wp2_with fail
      generalize w5.alloc (.cells (treeC tB).toArray 28) = w6 at *
      replace hbb := Box.mk hbb
      refine (cT.out w6 KL6.out).mono ?_
      rintro e w7 ⟨rfl, b7⟩
      have b8 := b7.alloc b7.size (.cells (treeC tT).toArray 28)
      have hT8 : TB (w7.alloc (.cells (treeC tT).toArray 28)) w7.heap.size tT := heap_alloc_new w7 _
      have hA8 := hA6.out.below b8
      have hB8 := hB6.out.below b8
      have B8 := Box.mk (B6.out.trans (b8.mono B6.out.size))
      obtain ⟨tb, htb⟩ : ∃ n, w7.heap.size = n := ⟨_, rfl⟩
      rw [htb] at hT8
      have q1 := hA8.part p1.out
      have q2 := hB8.part p2.out
      have q3 := hT8.part p3.out
      have q4 := hT8.part p4.out
      obtain ⟨q5, q6⟩ := hT8.count
      rw [p5.out] at q5
      have l1 := hA8.lt
      have l2 := hB8.lt
      have l3 := hT8.lt
      have hall : ∀ w', SinceP (w7.alloc (.cells (treeC tT).toArray 28)) w' → (rowOf w' ab (1 + m * 32) 32 = some (keyC x) ∧ rowOf w' bb (1 + m * 32) 32 = some (keyC y) ∧ rowOf w' tb (1 + k * 32) 32 = some (keyC (pairK x y)) ∧ rowOf w' tb (1 + m * 32) 32 = some (keyC zeroKey) ∧ w'.cell? ⟨tb, 0, none⟩ = some (.int .u32 j) ∧ ab < w'.heap.size ∧ bb < w'.heap.size ∧ tb < w'.heap.size) := fun w' hw => by
        have hzz := hw.out.size
        exact ⟨(rowOf_congr (hw.out.block ab l1) _ _).trans q1, (rowOf_congr (hw.out.block bb l2) _ _).trans q2, (rowOf_congr (hw.out.block tb l3) _ _).trans q3, (rowOf_congr (hw.out.block tb l3) _ _).trans q4, (hw.out.cell (p := ⟨tb, 0, none⟩) l3).trans q5, by omega, by omega, by omega⟩
      clear q1 q2 q3 q4 q5 q6 l1 l2 l3
      replace b7 := Box.mk b7
      replace b8 := Box.mk b8
      replace hA8 := Box.mk hA8
      replace hB8 := Box.mk hB8
      replace hT8 := Box.mk hT8
      have hml : (m : Int) < 32 := by omega
      have hkl : (k : Int) < 32 := by omega
      go_wp2_with fail
      generalize w7.alloc (.cells (treeC tT).toArray 28) = w8 at *
      replace htb := Box.mk htb
      refine hreg_begin (S := SinceP w8) (by kernel_rfl) (SinceP.refl _).drew (fun hHeld => ?_)
      simp only [List.length_cons, List.length_nil, Nat.zero_add, Nat.reduceAdd, Array.replicate]
      refine hreg_take (i := 0) rfl (by kernel_rfl) (by kernel_rfl) (by kernel_rfl) hreg_panic (by rfl) hHeld ?_
      apply Exists.intro
      refine ⟨fun w' hw' => ?_, ?_⟩
      · have hf := hall w' hw'
        go_simp
        try go_bits
        exact yieldsV_mk rfl
      simp only [Act.put, List.setIfInBounds_toArray, List.set_cons_zero, List.set_cons_succ]
      refine hreg_take (i := 1) rfl (by kernel_rfl) (by kernel_rfl) (by kernel_rfl) hreg_panic (by rfl) hHeld ?_
      apply Exists.intro
      refine ⟨fun w' hw' => ?_, ?_⟩
      · have hf := hall w' hw'
        go_simp
        try go_bits
        exact yieldsV_mk rfl
      simp only [Act.put, List.setIfInBounds_toArray, List.set_cons_zero, List.set_cons_succ]
      refine hreg_take (i := 2) rfl (by kernel_rfl) (by kernel_rfl) (by kernel_rfl) hreg_panic (by rfl) hHeld ?_
      apply Exists.intro
      refine ⟨fun w' hw' => ?_, ?_⟩
      · have hf := hall w' hw'
        go_simp
        try go_bits
        exact yieldsV_mk rfl
      simp only [Act.put, List.setIfInBounds_toArray, List.set_cons_zero, List.set_cons_succ]
      refine hreg_take (i := 3) rfl (by kernel_rfl) (by kernel_rfl) (by kernel_rfl) hreg_panic (by rfl) hHeld ?_
      apply Exists.intro
      refine ⟨fun w' hw' => ?_, ?_⟩
      · have hf := hall w' hw'
        go_simp
        try go_bits
        exact yieldsV_mk rfl
      simp only [Act.put, List.setIfInBounds_toArray, List.set_cons_zero, List.set_cons_succ]
      refine hreg_take (i := 4) rfl (by kernel_rfl) (by kernel_rfl) (by kernel_rfl) hreg_panic (by rfl) hHeld ?_
      apply Exists.intro
      refine ⟨fun w' hw' => ?_, ?_⟩
      · have hf := hall w' hw'
        go_simp
        try go_bits
        exact yieldsV_mk rfl
      simp only [Act.put, List.setIfInBounds_toArray, List.set_cons_zero, List.set_cons_succ]
      refine hreg_take (i := 5) rfl (by kernel_rfl) (by kernel_rfl) (by kernel_rfl) hreg_panic (by rfl) hHeld ?_
      apply Exists.intro
      refine ⟨fun w' hw' => ?_, ?_⟩
      · have hf := hall w' hw'
        go_simp
        try go_bits
        exact yieldsV_mk rfl
      simp only [Act.put, List.setIfInBounds_toArray, List.set_cons_zero, List.set_cons_succ]
      refine hreg_take (i := 6) rfl (by kernel_rfl) (by kernel_rfl) (by kernel_rfl) hreg_panic (by rfl) hHeld ?_
      apply Exists.intro
      refine ⟨fun w' hw' => ?_, ?_⟩
      · have hf := hall w' hw'
        go_simp
        try go_bits
        exact yieldsV_mk rfl
      simp only [Act.put, List.setIfInBounds_toArray, List.set_cons_zero, List.set_cons_succ]
      refine hreg_take (i := 7) rfl (by kernel_rfl) (by kernel_rfl) (by kernel_rfl) hreg_panic (by rfl) hHeld ?_
      apply Exists.intro
      refine ⟨fun w' hw' => ?_, ?_⟩
      · have hf := hall w' hw'
        go_simp
        try go_bits
        exact yieldsV_mk rfl
      simp only [Act.put, List.setIfInBounds_toArray, List.set_cons_zero, List.set_cons_succ]
      refine hreg_take (i := 8) rfl (by kernel_rfl) (by kernel_rfl) (by kernel_rfl) hreg_panic (by rfl) hHeld ?_
      apply Exists.intro
      refine ⟨fun w' hw' => ?_, ?_⟩
      · have hf := hall w' hw'
        go_simp
        try go_bits
        exact yieldsV_mk rfl
      simp only [Act.put, List.setIfInBounds_toArray, List.set_cons_zero, List.set_cons_succ]
      refine hreg_take (i := 9) rfl (by kernel_rfl) (by kernel_rfl) (by kernel_rfl) hreg_panic (by rfl) hHeld ?_
      apply Exists.intro
      refine ⟨fun w' hw' => ?_, ?_⟩
      · have hf := hall w' hw'
        go_simp
        try go_bits
        exact yieldsV_mk rfl
      simp only [Act.put, List.setIfInBounds_toArray, List.set_cons_zero, List.set_cons_succ]
      refine hreg_take (i := 10) rfl (by kernel_rfl) (by kernel_rfl) (by kernel_rfl) hreg_panic (by rfl) hHeld ?_
      apply Exists.intro
      refine ⟨fun w' hw' => ?_, ?_⟩
      · have hf := hall w' hw'
        go_simp
        try go_bits
        exact yieldsV_mk rfl
      simp only [Act.put, List.setIfInBounds_toArray, List.set_cons_zero, List.set_cons_succ]
      refine hreg_take (i := 11) rfl (by kernel_rfl) (by kernel_rfl) (by kernel_rfl) hreg_panic (by rfl) hHeld ?_
      apply Exists.intro
      refine ⟨fun w' hw' => ?_, ?_⟩
      · have hf := hall w' hw'
        go_simp
        try go_bits
        exact yieldsV_mk rfl
      simp only [Act.put, List.setIfInBounds_toArray, List.set_cons_zero, List.set_cons_succ]
      refine hreg_take (i := 12) rfl (by kernel_rfl) (by kernel_rfl) (by kernel_rfl) hreg_panic (by rfl) hHeld ?_
      apply Exists.intro
      refine ⟨fun w' hw' => ?_, ?_⟩
      · have hf := hall w' hw'
        go_simp
        try go_bits
        exact yieldsV_mk rfl
      simp only [Act.put, List.setIfInBounds_toArray, List.set_cons_zero, List.set_cons_succ]
      refine hreg_take (i := 13) rfl (by kernel_rfl) (by kernel_rfl) (by kernel_rfl) hreg_panic (by rfl) hHeld ?_
      apply Exists.intro
      refine ⟨fun w' hw' => ?_, ?_⟩
      · have hf := hall w' hw'
        go_simp
        try go_bits
        exact yieldsV_mk rfl
      simp only [Act.put, List.setIfInBounds_toArray, List.set_cons_zero, List.set_cons_succ]
      refine wpAnyH_ready (rs := [14]) (by kernel_rfl) (by simp) ?_
      refine hreg_event (o := _) rfl (by rfl) (fun K hK => ?_) ?_
      · go_simp
        first
          | (go_at_call 12; refine (refPair_any x y _).mono ?_; rintro e wn ⟨rfl, hb'⟩)
          | skip
        refine hK.out _ _ ?_ (fun hHeld' => ?_)
        · first
            | exact hHeld.next hb'
            | exact hHeld.next hb
            | exact hHeld
            | exact hHeld.alloc _
            | exact hHeld.setCell (by simp <;> omega) _
            | exact (hHeld.alloc _).alloc _
        replace hHeld := hHeld'
        clear hHeld' hK K
        simp only [Act.put, List.setIfInBounds_toArray, List.set_cons_zero, List.set_cons_succ]
        refine hreg_take (i := 15) rfl (by kernel_rfl) (by kernel_rfl) (by kernel_rfl) hreg_panic (by rfl) hHeld ?_
        apply Exists.intro
        refine ⟨fun w' hw' => ?_, ?_⟩
        · have hf := hall w' hw'
          go_simp
          try go_bits
          exact yieldsV_mk rfl
        simp only [Act.put, List.setIfInBounds_toArray, List.set_cons_zero, List.set_cons_succ]
        refine hreg_take (i := 16) rfl (by kernel_rfl) (by kernel_rfl) (by kernel_rfl) hreg_panic (by rfl) hHeld ?_
        apply Exists.intro
        refine ⟨fun w' hw' => ?_, ?_⟩
        · have hf := hall w' hw'
          go_simp
          try go_bits
          exact yieldsV_mk rfl
        simp only [Act.put, List.setIfInBounds_toArray, List.set_cons_zero, List.set_cons_succ]
        refine hreg_take (i := 17) rfl (by kernel_rfl) (by kernel_rfl) (by kernel_rfl) hreg_panic (by rfl) hHeld ?_
        apply Exists.intro
        refine ⟨fun w' hw' => ?_, ?_⟩
        · have hf := hall w' hw'
          go_simp
          try go_bits
          exact yieldsV_mk rfl
        simp only [Act.put, List.setIfInBounds_toArray, List.set_cons_zero, List.set_cons_succ]
        refine hreg_take (i := 18) rfl (by kernel_rfl) (by kernel_rfl) (by kernel_rfl) hreg_panic (by rfl) hHeld ?_
        apply Exists.intro
        refine ⟨fun w' hw' => ?_, ?_⟩
        · have hf := hall w' hw'
          go_simp
          try go_bits
          exact yieldsV_mk rfl
        simp only [Act.put, List.setIfInBounds_toArray, List.set_cons_zero, List.set_cons_succ]
        refine hreg_take (i := 19) rfl (by kernel_rfl) (by kernel_rfl) (by kernel_rfl) hreg_panic (by rfl) hHeld ?_
        apply Exists.intro
        refine ⟨fun w' hw' => ?_, ?_⟩
        · have hf := hall w' hw'
          go_simp
          try go_bits
          exact yieldsV_mk rfl
        simp only [Act.put, List.setIfInBounds_toArray, List.set_cons_zero, List.set_cons_succ]
        refine hreg_take (i := 20) rfl (by kernel_rfl) (by kernel_rfl) (by kernel_rfl) hreg_panic (by rfl) hHeld ?_
        apply Exists.intro
        refine ⟨fun w' hw' => ?_, ?_⟩
        · have hf := hall w' hw'
          go_simp
          try go_bits
          exact yieldsV_mk rfl
        simp only [Act.put, List.setIfInBounds_toArray, List.set_cons_zero, List.set_cons_succ]
        refine hreg_take (i := 21) rfl (by kernel_rfl) (by kernel_rfl) (by kernel_rfl) hreg_panic (by rfl) hHeld ?_
        apply Exists.intro
        refine ⟨fun w' hw' => ?_, ?_⟩
        · have hf := hall w' hw'
          go_simp
          try go_bits
          exact yieldsV_mk rfl
        simp only [Act.put, List.setIfInBounds_toArray, List.set_cons_zero, List.set_cons_succ]
        refine hreg_take (i := 22) rfl (by kernel_rfl) (by kernel_rfl) (by kernel_rfl) hreg_panic (by rfl) hHeld ?_
        apply Exists.intro
        refine ⟨fun w' hw' => ?_, ?_⟩
        · have hf := hall w' hw'
          go_simp
          try go_bits
          exact yieldsV_mk rfl
        simp only [Act.put, List.setIfInBounds_toArray, List.set_cons_zero, List.set_cons_succ]
        refine hreg_take (i := 23) rfl (by kernel_rfl) (by kernel_rfl) (by kernel_rfl) hreg_panic (by rfl) hHeld ?_
        apply Exists.intro
        refine ⟨fun w' hw' => ?_, ?_⟩
        · have hf := hall w' hw'
          go_simp
          try go_bits
          exact yieldsV_mk rfl
        simp only [Act.put, List.setIfInBounds_toArray, List.set_cons_zero, List.set_cons_succ]
        refine hreg_take (i := 24) rfl (by kernel_rfl) (by kernel_rfl) (by kernel_rfl) hreg_panic (by rfl) hHeld ?_
        apply Exists.intro
        refine ⟨fun w' hw' => ?_, ?_⟩
        · have hf := hall w' hw'
          go_simp
          try go_bits
          exact yieldsV_mk rfl
        simp only [Act.put, List.setIfInBounds_toArray, List.set_cons_zero, List.set_cons_succ]
        refine hreg_take (i := 25) rfl (by kernel_rfl) (by kernel_rfl) (by kernel_rfl) hreg_panic (by rfl) hHeld ?_
        apply Exists.intro
        refine ⟨fun w' hw' => ?_, ?_⟩
        · have hf := hall w' hw'
          go_simp
          try go_bits
          exact yieldsV_mk rfl
        simp only [Act.put, List.setIfInBounds_toArray, List.set_cons_zero, List.set_cons_succ]
        refine hreg_take (i := 26) rfl (by kernel_rfl) (by kernel_rfl) (by kernel_rfl) hreg_panic (by rfl) hHeld ?_
        apply Exists.intro
        refine ⟨fun w' hw' => ?_, ?_⟩
        · have hf := hall w' hw'
          go_simp
          try go_bits
          exact yieldsV_mk rfl
        simp only [Act.put, List.setIfInBounds_toArray, List.set_cons_zero, List.set_cons_succ]
        refine hreg_take (i := 27) rfl (by kernel_rfl) (by kernel_rfl) (by kernel_rfl) hreg_panic (by rfl) hHeld ?_
        apply Exists.intro
        refine ⟨fun w' hw' => ?_, ?_⟩
        · have hf := hall w' hw'
          go_simp
          try go_bits
          exact yieldsV_mk rfl
        simp only [Act.put, List.setIfInBounds_toArray, List.set_cons_zero, List.set_cons_succ]
        refine hreg_take (i := 28) rfl (by kernel_rfl) (by kernel_rfl) (by kernel_rfl) hreg_panic (by rfl) hHeld ?_
        apply Exists.intro
        refine ⟨fun w' hw' => ?_, ?_⟩
        · have hf := hall w' hw'
          go_simp
          try go_bits
          exact yieldsV_mk rfl
        simp only [Act.put, List.setIfInBounds_toArray, List.set_cons_zero, List.set_cons_succ]
        refine hreg_take (i := 29) rfl (by kernel_rfl) (by kernel_rfl) (by kernel_rfl) hreg_panic (by rfl) hHeld ?_
        apply Exists.intro
        refine ⟨fun w' hw' => ?_, ?_⟩
        · have hf := hall w' hw'
          go_simp
          try go_bits
          exact yieldsV_mk rfl
        simp only [Act.put, List.setIfInBounds_toArray, List.set_cons_zero, List.set_cons_succ]
        refine hreg_take (i := 30) rfl (by kernel_rfl) (by kernel_rfl) (by kernel_rfl) hreg_panic (by rfl) hHeld ?_
        apply Exists.intro
        refine ⟨fun w' hw' => ?_, ?_⟩
        · have hf := hall w' hw'
          go_simp
          try go_bits
          exact yieldsV_mk rfl
        simp only [Act.put, List.setIfInBounds_toArray, List.set_cons_zero, List.set_cons_succ]
        refine hreg_take (i := 31) rfl (by kernel_rfl) (by kernel_rfl) (by kernel_rfl) hreg_panic (by rfl) hHeld ?_
        apply Exists.intro
        refine ⟨fun w' hw' => ?_, ?_⟩
        · have hf := hall w' hw'
          go_simp
          try go_bits
          exact yieldsV_mk rfl
        simp only [Act.put, List.setIfInBounds_toArray, List.set_cons_zero, List.set_cons_succ]
        refine hreg_take (i := 32) rfl (by kernel_rfl) (by kernel_rfl) (by kernel_rfl) hreg_panic (by rfl) hHeld ?_
        apply Exists.intro
        refine ⟨fun w' hw' => ?_, ?_⟩
        · have hf := hall w' hw'
          go_simp
          try go_bits
          exact yieldsV_mk rfl
        simp only [Act.put, List.setIfInBounds_toArray, List.set_cons_zero, List.set_cons_succ]
        refine wpAnyH_done (by kernel_rfl) ?_ _
        refine NoPanic.normal ?_
        have hfin := B8.out.trans (hHeld.out.mono B8.out.size)
        go_wp2
        go_ret
        exact gives_bool rfl hfin
      exact AllReadyH.nil
end Go.Proofs.Ytabikhmaiennpaa
