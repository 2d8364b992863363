/- Layer 15: the first verdict on an item counts. -/
import Derived.Test.YtpgaibihfplhcaaOracleGood
namespace Go.Proofs.Ytpgaibihfplhcaa
open Go.RowKit
set_option linter.unusedVariables false
set_option linter.unusedSimpArgs false
attribute [local irreducible] Int.lt Int.le
attribute [local go_sem ↓] load_key store_key alloc_key build0_key one_key eq_key build1_key load_ver store_ver alloc_ver one_ver make_ver append_ver build3_ver build2_ver eq_ver
attribute [local go_sem] rowOf_drew rowOf_alloc_old rowOf_alloc_new canPut_drew canPut_alloc_old canPut_alloc_new setCells_alloc_new

/-- 'append' of any verdicts; what is no block of the slice's own stays. -/
theorem app_vk {w : World} {base : Nat} {u : Option Addr} {n0 c0 : Nat} {l : List Verd} {ty : TypeId} (hown : VOwn w base (.slice u n0 c0) l) (hbase : base ≤ w.heap.size) (a : Option Addr) (n cap : Nat) (m : List Verd) (hm : VL w a n cap m) (hlen : l.length + m.length ≤ 2000000) :
    ∃ u' n' c' w', appTo Try.prog 36 ty w (.slice u n0 c0) (.slice a n cap) = .ok (.value (.slice u' n' c')) w' ∧ VOwn w' base (.slice u' n' c') (l ++ m) ∧ Below base w w' ∧ w.heap.size ≤ w'.heap.size ∧ n' = l.length + m.length ∧ (∀ b, b < w.heap.size → some b ≠ (Value.slice u n0 c0).ownBlock → w'.heap[b]? = w.heap[b]?) := by
  obtain rfl := hm.1
  by_cases hne : m = []
  · subst hne
    have hs := hown.sl'
    refine ⟨u, n0, c0, w, appTo_none Try.underlying36 sizeOf_ver u n0 c0 hs.2.2.1 hs.2.2.2.2.1 a cap, by rw [List.append_nil]; exact hown, Below.refl _ _, Nat.le_refl _, hs.1, fun _ _ _ => rfl⟩
  · obtain ⟨i, hi, hs, hb, hz⟩ := info_vers
    obtain ⟨g, cap', w1, hap, hown', hgr, _⟩ := appTo_own (ty := ty) Try.underlying36 hi hs hb hz verC_length (by omega) verC_row (by omega) hown hbase a cap m hm hne hlen
    have hbl := grown_below hgr hown.ownBlock_le hbase
    exact ⟨_, _, _, w1, hap, hown', hbl, hgr.size, rfl, fun b hb hbo => hgr.block b hb hbo⟩
/-- A slice written out of one verdict, and others behind it. -/
theorem cons_v {w : World} (v : Verd) (a : Option Addr) (n c : Nat) (l : List Verd) (hl : VL w a n c l) (hn : n ≤ 100000) (ty : TypeId) :
    ∃ u' n' c' w', appTo Try.prog 36 ty (w.alloc (.cells (verC v).toArray 40)) (.slice (some ⟨w.heap.size, 0, none⟩) 1 1) (.slice a n c) = .ok (.value (.slice u' n' c')) w' ∧ VL w' u' n' c' (v :: l) ∧ Below w.heap.size w w' ∧ n' = n + 1 := by
  have hB : Below w.heap.size w (w.alloc (.cells (verC v).toArray 40)) := (Below.refl _ _).alloc (Nat.le_refl _) _
  have hOn := Own.new verC_length w w.heap.size [v] 40 (Nat.le_refl _) (by unfold maxLen; simp)
  rw [rows_one] at hOn
  have hlen := hl.1
  obtain ⟨u', n', c', w', h1, h2, h3, h4, h5⟩ := app_v (ty := ty) hOn hB.size a n c l (hl.below hB) (by simp only [List.length_singleton]; omega)
  exact ⟨u', n', c', w', h1, h2.sl'.2, hB.trans h3, by simp only [List.length_singleton] at h5; omega⟩

theorem xor_one_ne (i : Int) (h : -9223372036854775808 ≤ i ∧ i ≤ 9223372036854775807) : bits .xor .i64 i 1 ≠ i := by
  intro e
  have h0 : ∀ A B : Int, bits .xor .i64 A B = IntKind.i64.wrap (((BitVec.ofInt 64 A) ^^^ (BitVec.ofInt 64 B)).toNat : Int) := fun _ _ => rfl
  rw [h0, BitVec.toNat_xor, IntKind.wrap_i64, show (BitVec.ofInt 64 1).toNat = 1 from rfl] at e
  have h1 : ((BitVec.ofInt 64 i).toNat : Int) = i % 18446744073709551616 := by
    rw [BitVec.toNat_ofInt]
    omega
  have h2 : ((BitVec.ofInt 64 i).toNat ^^^ 1).testBit 0 = ((BitVec.ofInt 64 i).toNat.testBit 0 ^^ (1 : Nat).testBit 0) := Nat.testBit_xor ..
  rw [Nat.testBit_zero, Nat.testBit_zero, show (1 : Nat).testBit 0 = true from rfl] at h2
  generalize (BitVec.ofInt 64 i).toNat ^^^ 1 = y at *
  generalize (BitVec.ofInt 64 i).toNat = z at *
  by_cases hz : z % 2 = 1
  · simp [hz] at h2
    omega
  · simp [hz] at h2
    omega

theorem lookL_true {l : List Verd} {k : Key} {i : Int} (h : lookL l k i = true) : (l.any fun v => hitB v k i) = true := by
  induction l with
  | nil => rw [lookL_nil] at h; cases h
  | cons v l ih =>
    rw [lookL_cons] at h
    rw [List.any_cons]
    cases e : hitB v k i with
    | true => rfl
    | false => rw [e] at h; simp at h; rw [ih h]; rfl
theorem look_last {l : List Verd} {k : Key} {i : Int} (h : lookL l k i = true) : lookL (l ++ [⟨k, i, true⟩]) k i = true := by
  rw [lookL_append, lookL_true h, if_pos rfl, h]

set_option maxHeartbeats 1000000 in
theorem oracleFirst_walk (a : Option Addr) (n c : Nat) (l : List Verd) (k o : Key) (i : Int) (is : Bool) (W : World) (h : VL W a n c l) (hi : -9223372036854775808 ≤ i ∧ i ≤ 9223372036854775807) : Calls Try.prog 7 #[.slice a n c, .agg (keyC k).toArray, .agg (keyC o).toArray, .int .i64 i, .bool is] W (LawEnd W) := by
  have hl := Box.mk h.1
  have H := Box.mk h
  have hx := Box.mk (xor_one_ne i hi)
  clear h
  by_cases hn : 200 < n
  · go_enter Try.func7, Try.ntmps7
    go_wp2_with fail
    refine (shown15 _).mono ?_
    rintro e w2 ⟨rfl, hb2⟩
    go_wp2
    go_ret
    exact gives_bool rfl (Below.of hb2 (by simp <;> omega) (((Below.refl _ _).alloc (by simp) _).alloc (by simp <;> omega) _))
  · go_enter Try.func7, Try.ntmps7
    go_wp2_with fail
    have S0 := (((Held.start W 32).row (keyC k) 23 (keyC_length k))).row (keyC o) 23 (keyC_length o)
    refine (shown15 _).mono ?_
    rintro e w1 ⟨rfl, hb1⟩
    try clear hcells hrows
    replace S0 := Held.to S0 hb1
    have hcells := Held.cells S0
    have hrows := Held.rows S0
    simp only [CF, RF, World.size_alloc] at hcells hrows
    go_wp2_with fail
    obtain ⟨u2, n2, c2, w2, hap2, hV2, hb2, hn2⟩ := cons_v (w := w1) ⟨k, i, is⟩ a n c l (H.out.below S0.below) (by omega) 36
    rw [hap2]
    replace hap2 := Box.mk hap2
    replace hV2 := Box.mk hV2
    replace hn2 := Box.mk hn2
    try clear hcells hrows
    replace S0 := Held.to S0 hb2
    have hcells := Held.cells S0
    have hrows := Held.rows S0
    simp only [CF, RF, World.size_alloc] at hcells hrows
    go_wp2_with fail
    obtain ⟨u3, n3, c3, w3, hap3, hV3, hb3, hn3⟩ := cons_v (w := w2) ⟨o, i, !is⟩ u2 n2 c2 _ hV2.out (by have := hn2.out; omega) 36
    rw [hap3]
    replace hap3 := Box.mk hap3
    replace hV3 := Box.mk hV3
    replace hn3 := Box.mk hn3
    try clear hcells hrows
    replace S0 := Held.to S0 hb3
    have hcells := Held.cells S0
    have hrows := Held.rows S0
    simp only [CF, RF, World.size_alloc] at hcells hrows
    go_wp2_with fail
    obtain ⟨xx, hxx⟩ : ∃ x, x = bits .xor .i64 i 1 := ⟨_, rfl⟩
    have hne : xx ≠ i := by rw [hxx]; exact hx.out
    rw [← hxx]
    replace hxx := Box.mk hxx
    obtain ⟨u4, n4, c4, w4, hap4, hV4, hb4, hn4⟩ := cons_v (w := w3) ⟨k, xx, !is⟩ u2 n2 c2 _ (hV2.out.below hb3) (by have := hn2.out; omega) 36
    rw [hap4]
    replace hap4 := Box.mk hap4
    replace hV4 := Box.mk hV4
    replace hn4 := Box.mk hn4
    replace hne := Box.mk hne
    try clear hcells hrows
    replace S0 := Held.to S0 hb4
    have hcells := Held.cells S0
    have hrows := Held.rows S0
    simp only [CF, RF, World.size_alloc] at hcells hrows
    have V2 : Box (VL w4 u2 n2 c2 (⟨k, i, is⟩ :: l)) := Box.mk ((hV2.out.below hb3).below hb4)
    have V3 : Box (VL w4 u3 n3 c3 (⟨o, i, !is⟩ :: ⟨k, i, is⟩ :: l)) := Box.mk (hV3.out.below hb4)
    have VLw : Box (VL w4 a n c l) := Box.mk (H.out.below S0.below)
    have hrk : rowOf w4 W.heap.size 0 32 = some (keyC k) := by have := S0.rows; exact this.2.1.2
    have hro : rowOf w4 (W.heap.size + 1) 0 32 = some (keyC o) := by have := S0.rows; have := this.1.2; rw [World.size_alloc] at this; exact this
    have hlo : W.heap.size + 1 < w4.heap.size := by have := S0.rows; have := this.1.1; rw [World.size_alloc] at this; exact this
    have hlk : W.heap.size < w4.heap.size := by omega
    have hBW := S0.below
    clear hcells hrows S0 hV2 hV3 hb2 hb3
    have hLl : l.length ≤ 200 := by rw [← hl.out]; omega
    have hE := fun (w : World) => Own.new verC_length w w.heap.size [(⟨k, i, true⟩ : Verd)] 40 (Nat.le_refl _) (by unfold maxLen; simp)
    simp only [rows_one, List.length_singleton] at hE
    have one34 : ∀ (w : World), VL (w.alloc (.cells (verC (⟨k, i, true⟩ : Verd)).toArray 40)) (some ⟨w.heap.size, 0, none⟩) 1 1 [(⟨k, i, true⟩ : Verd)] := fun w => (hE w).sl'.2
    -- first the slice, then what is behind it, then the one
    obtain ⟨uA, nA, cA, wA, hA1, oA1, bA1, sA1, lA1, _⟩ := app_vk (w := (w4.alloc (.cells #[] 40)).drew) (base := w4.heap.size) (ty := 36) ((Own.empty verC 34 40 w4 w4.heap.size w4.heap.size rfl (Nat.le_refl _)).congr fun _ _ _ => rfl) (by simp) a n c l (VLw.out.below (((Below.refl _ _).alloc (Nat.le_refl _) _).drew)) (by simp <;> omega)
    have BA1 : Below w4.heap.size w4 wA := (((Below.refl _ _).alloc (Nat.le_refl _) _).drew).trans bA1
    obtain ⟨uA2, nA2, cA2, wA2, hA2, oA2, bA2, sA2, lA2⟩ := app_v (w := wA.alloc (.cells (verC (⟨k, i, true⟩ : Verd)).toArray 40)) (base := w4.heap.size) (ty := 36) (oA1.below ((Below.refl _ _).alloc (Nat.le_refl _) _)) (Nat.le_trans BA1.size (by simp)) (some ⟨wA.heap.size, 0, none⟩) 1 1 [(⟨k, i, true⟩ : Verd)] (one34 wA) (by simp <;> omega)
    have BA2 : Below w4.heap.size w4 wA2 := (BA1.alloc BA1.size _).trans bA2
    have VA : Box (VL wA2 uA2 nA2 cA2 (l ++ [(⟨k, i, true⟩ : Verd)])) := Box.mk (by have := oA2.sl'.2; simpa using this)
    have mA : nA2 ≤ 1000 := by simp at lA2; omega
    replace hA1 := Box.mk hA1
    replace hA2 := Box.mk hA2
    -- the slice, the one, then what is behind
    obtain ⟨uB, nB, cB, wB, hB1, oB1, bB1, sB1, lB1, kB1⟩ := app_vk (w := ((w4.alloc (.cells #[] 40)).alloc (.cells (verC (⟨k, i, true⟩ : Verd)).toArray 40)).drew) (base := w4.heap.size) (ty := 36) (((Own.empty verC 34 40 w4 w4.heap.size w4.heap.size rfl (Nat.le_refl _)).below ((Below.refl _ _).alloc (Nat.le_refl _) _)).congr fun _ _ _ => rfl) (by simp <;> omega) a n c l (VLw.out.below ((((Below.refl _ _).alloc (Nat.le_refl _) _).alloc (by simp) _).drew)) (by simp <;> omega)
    have BB1 : Below w4.heap.size w4 wB := ((((Below.refl _ _).alloc (Nat.le_refl _) _).alloc (by simp) _).drew).trans bB1
    have EB : VL wB (some ⟨w4.heap.size + 1, 0, none⟩) 1 1 [(⟨k, i, true⟩ : Verd)] := by
      have h1 := one34 (w4.alloc (.cells #[] 40))
      rw [World.size_alloc] at h1
      obtain ⟨q1, q2, q3, q4, q5⟩ := h1
      refine ⟨q1, q2, q3, q4, fun hne => ?_⟩
      obtain ⟨b, o, e, hb, hr⟩ := q5 hne
      injection e with e
      injection e with e1 e2
      subst e1 e2
      have hs : w4.heap.size + 1 < wB.heap.size := by simp at sB1; omega
      refine ⟨_, _, rfl, hs, ?_⟩
      rw [rowOf_congr (kB1 _ (by simp) (by simp [Value.ownBlock]))]
      exact hr
    obtain ⟨uB2, nB2, cB2, wB2, hB2, oB2, bB2, sB2, lB2⟩ := app_v (w := wB) (base := w4.heap.size) (ty := 36) oB1 BB1.size (some ⟨w4.heap.size + 1, 0, none⟩) 1 1 [(⟨k, i, true⟩ : Verd)] EB (by simp <;> omega)
    have BB2 : Below w4.heap.size w4 wB2 := BB1.trans bB2
    have VB : Box (VL wB2 uB2 nB2 cB2 (l ++ [(⟨k, i, true⟩ : Verd)])) := Box.mk (by have := oB2.sl'.2; simpa using this)
    have mB : nB2 ≤ 1000 := by simp at lB2; omega
    replace hB1 := Box.mk hB1
    replace hB2 := Box.mk hB2
    -- the one, the slice, what is behind
    obtain ⟨uC, nC, cC, wC, hC1, oC1, bC1, sC1, lC1, _⟩ := app_vk (w := ((w4.alloc (.cells (verC (⟨k, i, true⟩ : Verd)).toArray 40)).alloc (.cells #[] 40)).drew) (base := w4.heap.size + 1) (ty := 36) ((Own.empty verC 34 40 (w4.alloc (.cells (verC (⟨k, i, true⟩ : Verd)).toArray 40)) (w4.heap.size + 1) (w4.heap.size + 1) (by simp) (Nat.le_refl _)).congr fun _ _ _ => rfl) (by simp <;> omega) a n c l (VLw.out.below ((((Below.refl _ _).alloc (Nat.le_refl _) _).alloc (by simp) _).drew)) (by simp <;> omega)
    have BC1 : Below w4.heap.size w4 wC := ((((Below.refl _ _).alloc (Nat.le_refl _) _).alloc (by simp) _).drew).trans (bC1.mono (by omega))
    have EC : VL wC (some ⟨w4.heap.size, 0, none⟩) 1 1 [(⟨k, i, true⟩ : Verd)] := by
      have h1 := one34 w4
      obtain ⟨q1, q2, q3, q4, q5⟩ := h1
      refine ⟨q1, q2, q3, q4, fun hne => ?_⟩
      obtain ⟨b, o, e, hb, hr⟩ := q5 hne
      injection e with e
      injection e with e1 e2
      subst e1 e2
      have hs : w4.heap.size < wC.heap.size := by simp at sC1; omega
      refine ⟨_, _, rfl, hs, ?_⟩
      rw [rowOf_congr (bC1.block _ (by omega)), rowOf_drew, rowOf_alloc_old _ _ _ _ _ (by simp)]
      exact hr
    obtain ⟨uC2, nC2, cC2, wC2, hC2, oC2, bC2, sC2, lC2⟩ := app_v (w := wC) (base := w4.heap.size + 1) (ty := 36) oC1 (by simp at sC1; omega) (some ⟨w4.heap.size, 0, none⟩) 1 1 [(⟨k, i, true⟩ : Verd)] EC (by simp <;> omega)
    have BC2 : Below w4.heap.size w4 wC2 := BC1.trans (bC2.mono (by omega))
    have VC : Box (VL wC2 uC2 nC2 cC2 (l ++ [(⟨k, i, true⟩ : Verd)])) := Box.mk (by have := oC2.sl'.2; simpa using this)
    have mC : nC2 ≤ 1000 := by simp at lC2; omega
    replace hC1 := Box.mk hC1
    replace hC2 := Box.mk hC2
    replace lA1 := Box.mk lA1
    replace lA2 := Box.mk lA2
    replace lB1 := Box.mk lB1
    replace lB2 := Box.mk lB2
    replace lC1 := Box.mk lC1
    replace lC2 := Box.mk lC2
    clear hE one34 EB EC oA1 oA2 oB1 oB2 oC1 oC2 kB1 bA1 bA2 bB1 bB2 bC1 bC2
    have hF : ∀ w', Below w4.heap.size w4 w' → (rowOf w' W.heap.size 0 32 = some (keyC k) ∧ rowOf w' (W.heap.size + 1) 0 32 = some (keyC o) ∧ W.heap.size < w'.heap.size ∧ W.heap.size + 1 < w'.heap.size) := fun w' h => ⟨by rw [rowOf_congr (h.block _ hlk)]; exact hrk, by rw [rowOf_congr (h.block _ hlo)]; exact hro, by have := h.size; omega, by have := h.size; omega⟩
    have la : lookL (⟨k, i, is⟩ :: l) k i = is := by rw [lookL_cons, hitB_at]; simp
    have lc : lookL (⟨k, xx, !is⟩ :: ⟨k, i, is⟩ :: l) k i = is := by
      have : (xx == i) = false := by simp; exact hne.out
      rw [lookL_cons, hitB_at, this]; exact la
    have lb : (o == k) = false → lookL (⟨o, i, !is⟩ :: ⟨k, i, is⟩ :: l) k i = is := fun h => by
      rw [lookL_cons, show hitB ⟨o, i, !is⟩ k i = ((o == k) && (i == i)) from rfl, h]; exact la
    have ld : lookL l k i = true → lookL (l ++ [(⟨k, i, true⟩ : Verd)]) k i = true := look_last
    obtain ⟨t, ht⟩ : ∃ t, t = lookL l k i := ⟨_, rfl⟩
    obtain ⟨td, htd⟩ : ∃ t, t = lookL (l ++ [(⟨k, i, true⟩ : Verd)]) k i := ⟨_, rfl⟩
    rw [← ht, ← htd] at ld
    have m2 : n2 ≤ 1000 := by have := hn2.out; omega
    have m3 : n3 ≤ 1000 := by have := hn3.out; have := hn2.out; omega
    have m4 : n4 ≤ 1000 := by have := hn4.out; have := hn2.out; omega
    replace hF := Box.mk hF
    replace la := Box.mk la
    replace lb := Box.mk lb
    replace lc := Box.mk lc
    replace ht := Box.mk ht
    replace htd := Box.mk htd
    have hall : ∀ w', SinceP w4 w' → (rowOf w' W.heap.size 0 32 = some (keyC k) ∧ W.heap.size < w'.heap.size) := fun w' h => ⟨by rw [rowOf_congr (h.out.block _ hlk)]; exact hrk, by have := h.out.size; omega⟩
    go_wp2_with fail
    refine hreg_begin (S := SinceP w4) (by kernel_rfl) (SinceP.refl _).drew (fun hHeld => ?_)
    simp only [List.length_cons, List.length_nil, Nat.zero_add, Nat.reduceAdd, Array.replicate]
    refine hreg_take (i := 1) rfl (by kernel_rfl) (by kernel_rfl) (by kernel_rfl) hreg_panic (by rfl) hHeld ?_
    apply Exists.intro
    refine ⟨fun w' hw' => ?_, ?_⟩
    · have hf := hall w' hw'
      go_simp
      try go_bits
      exact yieldsV_mk rfl
    simp only [Act.put, List.setIfInBounds_toArray, List.set_cons_zero, List.set_cons_succ]
    refine hreg_take (i := 3) rfl (by kernel_rfl) (by kernel_rfl) (by kernel_rfl) hreg_panic (by rfl) hHeld ?_
    apply Exists.intro
    refine ⟨fun w' hw' => ?_, ?_⟩
    · have hf := hall w' hw'
      go_simp
      try go_bits
      exact yieldsV_mk rfl
    simp only [Act.put, List.setIfInBounds_toArray, List.set_cons_zero, List.set_cons_succ]
    refine hreg_take (i := 4) rfl (by kernel_rfl) (by kernel_rfl) (by kernel_rfl) hreg_panic (by rfl) hHeld ?_
    apply Exists.intro
    refine ⟨fun w' hw' => ?_, ?_⟩
    · have hf := hall w' hw'
      go_simp
      try go_bits
      exact yieldsV_mk rfl
    simp only [Act.put, List.setIfInBounds_toArray, List.set_cons_zero, List.set_cons_succ]
    refine hreg_take (i := 5) rfl (by kernel_rfl) (by kernel_rfl) (by kernel_rfl) hreg_panic (by rfl) hHeld ?_
    apply Exists.intro
    refine ⟨fun w' hw' => ?_, ?_⟩
    · have hf := hall w' hw'
      go_simp
      try go_bits
      exact yieldsV_mk rfl
    simp only [Act.put, List.setIfInBounds_toArray, List.set_cons_zero, List.set_cons_succ]
    refine wpAnyH_ready (rs := [0, 6]) (by kernel_rfl) (by simp) ?_
    refine hreg_event (o := _) rfl (by rfl) (fun K hK => ?_) ?_
    · go_simp
      first
        | skip
      refine hK.out _ _ ?_ (fun hHeld' => ?_)
      · first
          | exact hHeld.next hb
          | exact hHeld
          | exact hHeld.alloc _
          | exact hHeld.setCell (by simp <;> omega) _
          | exact (hHeld.alloc _).alloc _
      replace hHeld := hHeld'
      clear hHeld' hK K
      simp only [Act.put, List.setIfInBounds_toArray, List.set_cons_zero, List.set_cons_succ]
      refine wpAnyH_ready (rs := [2, 6]) (by kernel_rfl) (by simp) ?_
      refine hreg_event (o := _) rfl (by rfl) (fun K hK => ?_) ?_
      · go_simp
        first
          | (rw [hA1.out]; go_simp)
          | skip
        refine hK.out _ _ ?_ (fun hHeld' => ?_)
        · first
            | exact ⟨BA1⟩
            | exact hHeld.next hb
            | exact hHeld
            | exact hHeld.alloc _
            | exact hHeld.setCell (by simp <;> omega) _
            | exact (hHeld.alloc _).alloc _
        replace hHeld := hHeld'
        clear hHeld' hK K
        simp only [Act.put, List.setIfInBounds_toArray, List.set_cons_zero, List.set_cons_succ]
        refine wpAnyH_ready (rs := [6]) (by kernel_rfl) (by simp) ?_
        refine hreg_event (o := _) rfl (by rfl) (fun K hK => ?_) ?_
        · go_simp
          first
            | skip
          refine hK.out _ _ ?_ (fun hHeld' => ?_)
          · first
              | exact hHeld.next hb
              | exact hHeld
              | exact hHeld.alloc _
              | exact hHeld.setCell (by simp <;> omega) _
              | exact (hHeld.alloc _).alloc _
          replace hHeld := hHeld'
          clear hHeld' hK K
          simp only [Act.put, List.setIfInBounds_toArray, List.set_cons_zero, List.set_cons_succ]
          refine wpAnyH_ready (rs := [7]) (by kernel_rfl) (by simp) ?_
          refine hreg_event (o := _) rfl (by rfl) (fun K hK => ?_) ?_
          · go_simp
            first
              | (rw [hA2.out]; go_simp)
              | skip
            refine hK.out _ _ ?_ (fun hHeld' => ?_)
            · first
                | exact ⟨BA2⟩
                | exact hHeld.next hb
                | exact hHeld
                | exact hHeld.alloc _
                | exact hHeld.setCell (by simp <;> omega) _
                | exact (hHeld.alloc _).alloc _
            replace hHeld := hHeld'
            clear hHeld' hK K
            simp only [Act.put, List.setIfInBounds_toArray, List.set_cons_zero, List.set_cons_succ]
            refine hreg_take (i := 8) rfl (by kernel_rfl) (by kernel_rfl) (by kernel_rfl) hreg_panic (by rfl) hHeld ?_
            apply Exists.intro
            refine ⟨fun w' hw' => ?_, ?_⟩
            · have hf := hall w' hw'
              go_simp
              try go_bits
              exact yieldsV_mk rfl
            simp only [Act.put, List.setIfInBounds_toArray, List.set_cons_zero, List.set_cons_succ]
            refine wpAnyH_done (by kernel_rfl) ?_ _
            refine NoPanic.normal ?_
            obtain ⟨fx1, fx2, fx3, fx4⟩ := hF.out _ BA2
            clear hall hHeld
            cases is
            all_goals
              cases hok : (o == k)
              · go_wp2_with fail
                refine (look_any u2 n2 c2 _ k i _ (V2.out.below BA2) (by omega)).mono ?_
                rintro e y1 ⟨rfl, hby1⟩
                rw [la.out]
                have by1 := since_next BA2 hby1
                have cby1 := hby1
                obtain ⟨ry1, oy1, sy1, ty1⟩ := hF.out _ by1
                go_wp2_with fail
                refine (look_any u3 n3 c3 _ k i _ (V3.out.below by1) (by omega)).mono ?_
                rintro e y2 ⟨rfl, hby2⟩
                rw [lb.out hok]
                have by2 := since_next by1 hby2
                have cby2 := since_next cby1 hby2
                obtain ⟨ry2, oy2, sy2, ty2⟩ := hF.out _ by2
                go_wp2_with fail
                refine (look_any u4 n4 c4 _ k i _ (hV4.out.below by2) (by omega)).mono ?_
                rintro e y3 ⟨rfl, hby3⟩
                rw [lc.out]
                have by3 := since_next by2 hby3
                have cby3 := since_next cby2 hby3
                obtain ⟨ry3, oy3, sy3, ty3⟩ := hF.out _ by3
                go_wp2_with fail
                refine (look_any uA2 nA2 cA2 _ k i _ (VA.out.below cby3) (by omega)).mono ?_
                rintro e y4 ⟨rfl, hby4⟩
                rw [← htd.out]
                have by4 := since_next by3 hby4
                have cby4 := since_next cby3 hby4
                obtain ⟨ry4, oy4, sy4, ty4⟩ := hF.out _ by4
                cases td
                · have htf : t = false := by
                    cases t with
                    | false => rfl
                    | true => exact (ld rfl).symm
                  subst htf
                  go_wp2_with fail
                  refine (look_any a n c _ k i _ (VLw.out.below by4) (by omega)).mono ?_
                  rintro e y5 ⟨rfl, hby5⟩
                  rw [← ht.out]
                  have by5 := since_next by4 hby5
                  have cby5 := since_next cby4 hby5
                  obtain ⟨ry5, oy5, sy5, ty5⟩ := hF.out _ by5
                  go_wp2_with fail
                  refine (look_any a n c _ k i _ (VLw.out.below by5) (by omega)).mono ?_
                  rintro e y6 ⟨rfl, hby6⟩
                  rw [← ht.out]
                  have by6 := since_next by5 hby6
                  have cby6 := since_next cby5 hby6
                  obtain ⟨ry6, oy6, sy6, ty6⟩ := hF.out _ by6
                  go_wp2
                  go_ret
                  exact gives_bool rfl (hBW.trans (by6.mono (by omega)))
                · go_wp2_with fail
                  refine (look_any a n c _ k i _ (VLw.out.below by4) (by omega)).mono ?_
                  rintro e y5 ⟨rfl, hby5⟩
                  rw [← ht.out]
                  have by5 := since_next by4 hby5
                  have cby5 := since_next cby4 hby5
                  obtain ⟨ry5, oy5, sy5, ty5⟩ := hF.out _ by5
                  cases t
                  · go_wp2
                    go_ret
                    exact gives_bool rfl (hBW.trans (by5.mono (by omega)))
                  · go_wp2_with fail
                    refine (look_any uA2 nA2 cA2 _ k i _ (VA.out.below cby5) (by omega)).mono ?_
                    rintro e y6 ⟨rfl, hby6⟩
                    rw [← htd.out]
                    have by6 := since_next by5 hby6
                    have cby6 := since_next cby5 hby6
                    obtain ⟨ry6, oy6, sy6, ty6⟩ := hF.out _ by6
                    go_wp2
                    go_ret
                    exact gives_bool rfl (hBW.trans (by6.mono (by omega)))
              · go_wp2_with fail
                refine (look_any u2 n2 c2 _ k i _ (V2.out.below BA2) (by omega)).mono ?_
                rintro e y1 ⟨rfl, hby1⟩
                rw [la.out]
                have by1 := since_next BA2 hby1
                have cby1 := hby1
                obtain ⟨ry1, oy1, sy1, ty1⟩ := hF.out _ by1
                go_wp2_with fail
                refine (look_any u4 n4 c4 _ k i _ (hV4.out.below by1) (by omega)).mono ?_
                rintro e y3 ⟨rfl, hby3⟩
                rw [lc.out]
                have by3 := since_next by1 hby3
                have cby3 := since_next cby1 hby3
                obtain ⟨ry3, oy3, sy3, ty3⟩ := hF.out _ by3
                go_wp2_with fail
                refine (look_any uA2 nA2 cA2 _ k i _ (VA.out.below cby3) (by omega)).mono ?_
                rintro e y4 ⟨rfl, hby4⟩
                rw [← htd.out]
                have by4 := since_next by3 hby4
                have cby4 := since_next cby3 hby4
                obtain ⟨ry4, oy4, sy4, ty4⟩ := hF.out _ by4
                cases td
                · have htf : t = false := by
                    cases t with
                    | false => rfl
                    | true => exact (ld rfl).symm
                  subst htf
                  go_wp2_with fail
                  refine (look_any a n c _ k i _ (VLw.out.below by4) (by omega)).mono ?_
                  rintro e y5 ⟨rfl, hby5⟩
                  rw [← ht.out]
                  have by5 := since_next by4 hby5
                  have cby5 := since_next cby4 hby5
                  obtain ⟨ry5, oy5, sy5, ty5⟩ := hF.out _ by5
                  go_wp2_with fail
                  refine (look_any a n c _ k i _ (VLw.out.below by5) (by omega)).mono ?_
                  rintro e y6 ⟨rfl, hby6⟩
                  rw [← ht.out]
                  have by6 := since_next by5 hby6
                  have cby6 := since_next cby5 hby6
                  obtain ⟨ry6, oy6, sy6, ty6⟩ := hF.out _ by6
                  go_wp2
                  go_ret
                  exact gives_bool rfl (hBW.trans (by6.mono (by omega)))
                · go_wp2_with fail
                  refine (look_any a n c _ k i _ (VLw.out.below by4) (by omega)).mono ?_
                  rintro e y5 ⟨rfl, hby5⟩
                  rw [← ht.out]
                  have by5 := since_next by4 hby5
                  have cby5 := since_next cby4 hby5
                  obtain ⟨ry5, oy5, sy5, ty5⟩ := hF.out _ by5
                  cases t
                  · go_wp2
                    go_ret
                    exact gives_bool rfl (hBW.trans (by5.mono (by omega)))
                  · go_wp2_with fail
                    refine (look_any uA2 nA2 cA2 _ k i _ (VA.out.below cby5) (by omega)).mono ?_
                    rintro e y6 ⟨rfl, hby6⟩
                    rw [← htd.out]
                    have by6 := since_next by5 hby6
                    have cby6 := since_next cby5 hby6
                    obtain ⟨ry6, oy6, sy6, ty6⟩ := hF.out _ by6
                    go_wp2
                    go_ret
                    exact gives_bool rfl (hBW.trans (by6.mono (by omega)))
          exact AllReadyH.nil
        exact AllReadyH.nil
      refine hreg_event (o := _) rfl (by rfl) (fun K hK => ?_) ?_
      · go_simp
        first
          | skip
        refine hK.out _ _ ?_ (fun hHeld' => ?_)
        · first
            | exact hHeld.next hb
            | exact hHeld
            | exact hHeld.alloc _
            | exact hHeld.setCell (by simp <;> omega) _
            | exact (hHeld.alloc _).alloc _
        replace hHeld := hHeld'
        clear hHeld' hK K
        simp only [Act.put, List.setIfInBounds_toArray, List.set_cons_zero, List.set_cons_succ]
        refine wpAnyH_ready (rs := [2]) (by kernel_rfl) (by simp) ?_
        refine hreg_event (o := _) rfl (by rfl) (fun K hK => ?_) ?_
        · go_simp
          first
            | (rw [hB1.out]; go_simp)
            | skip
          refine hK.out _ _ ?_ (fun hHeld' => ?_)
          · first
              | exact ⟨BB1⟩
              | exact hHeld.next hb
              | exact hHeld
              | exact hHeld.alloc _
              | exact hHeld.setCell (by simp <;> omega) _
              | exact (hHeld.alloc _).alloc _
          replace hHeld := hHeld'
          clear hHeld' hK K
          simp only [Act.put, List.setIfInBounds_toArray, List.set_cons_zero, List.set_cons_succ]
          refine wpAnyH_ready (rs := [7]) (by kernel_rfl) (by simp) ?_
          refine hreg_event (o := _) rfl (by rfl) (fun K hK => ?_) ?_
          · go_simp
            first
              | (rw [hB2.out]; go_simp)
              | skip
            refine hK.out _ _ ?_ (fun hHeld' => ?_)
            · first
                | exact ⟨BB2⟩
                | exact hHeld.next hb
                | exact hHeld
                | exact hHeld.alloc _
                | exact hHeld.setCell (by simp <;> omega) _
                | exact (hHeld.alloc _).alloc _
            replace hHeld := hHeld'
            clear hHeld' hK K
            simp only [Act.put, List.setIfInBounds_toArray, List.set_cons_zero, List.set_cons_succ]
            refine hreg_take (i := 8) rfl (by kernel_rfl) (by kernel_rfl) (by kernel_rfl) hreg_panic (by rfl) hHeld ?_
            apply Exists.intro
            refine ⟨fun w' hw' => ?_, ?_⟩
            · have hf := hall w' hw'
              go_simp
              try go_bits
              exact yieldsV_mk rfl
            simp only [Act.put, List.setIfInBounds_toArray, List.set_cons_zero, List.set_cons_succ]
            refine wpAnyH_done (by kernel_rfl) ?_ _
            refine NoPanic.normal ?_
            obtain ⟨fx1, fx2, fx3, fx4⟩ := hF.out _ BB2
            clear hall hHeld
            cases is
            all_goals
              cases hok : (o == k)
              · go_wp2_with fail
                refine (look_any u2 n2 c2 _ k i _ (V2.out.below BB2) (by omega)).mono ?_
                rintro e y1 ⟨rfl, hby1⟩
                rw [la.out]
                have by1 := since_next BB2 hby1
                have cby1 := hby1
                obtain ⟨ry1, oy1, sy1, ty1⟩ := hF.out _ by1
                go_wp2_with fail
                refine (look_any u3 n3 c3 _ k i _ (V3.out.below by1) (by omega)).mono ?_
                rintro e y2 ⟨rfl, hby2⟩
                rw [lb.out hok]
                have by2 := since_next by1 hby2
                have cby2 := since_next cby1 hby2
                obtain ⟨ry2, oy2, sy2, ty2⟩ := hF.out _ by2
                go_wp2_with fail
                refine (look_any u4 n4 c4 _ k i _ (hV4.out.below by2) (by omega)).mono ?_
                rintro e y3 ⟨rfl, hby3⟩
                rw [lc.out]
                have by3 := since_next by2 hby3
                have cby3 := since_next cby2 hby3
                obtain ⟨ry3, oy3, sy3, ty3⟩ := hF.out _ by3
                go_wp2_with fail
                refine (look_any uB2 nB2 cB2 _ k i _ (VB.out.below cby3) (by omega)).mono ?_
                rintro e y4 ⟨rfl, hby4⟩
                rw [← htd.out]
                have by4 := since_next by3 hby4
                have cby4 := since_next cby3 hby4
                obtain ⟨ry4, oy4, sy4, ty4⟩ := hF.out _ by4
                cases td
                · have htf : t = false := by
                    cases t with
                    | false => rfl
                    | true => exact (ld rfl).symm
                  subst htf
                  go_wp2_with fail
                  refine (look_any a n c _ k i _ (VLw.out.below by4) (by omega)).mono ?_
                  rintro e y5 ⟨rfl, hby5⟩
                  rw [← ht.out]
                  have by5 := since_next by4 hby5
                  have cby5 := since_next cby4 hby5
                  obtain ⟨ry5, oy5, sy5, ty5⟩ := hF.out _ by5
                  go_wp2_with fail
                  refine (look_any a n c _ k i _ (VLw.out.below by5) (by omega)).mono ?_
                  rintro e y6 ⟨rfl, hby6⟩
                  rw [← ht.out]
                  have by6 := since_next by5 hby6
                  have cby6 := since_next cby5 hby6
                  obtain ⟨ry6, oy6, sy6, ty6⟩ := hF.out _ by6
                  go_wp2
                  go_ret
                  exact gives_bool rfl (hBW.trans (by6.mono (by omega)))
                · go_wp2_with fail
                  refine (look_any a n c _ k i _ (VLw.out.below by4) (by omega)).mono ?_
                  rintro e y5 ⟨rfl, hby5⟩
                  rw [← ht.out]
                  have by5 := since_next by4 hby5
                  have cby5 := since_next cby4 hby5
                  obtain ⟨ry5, oy5, sy5, ty5⟩ := hF.out _ by5
                  cases t
                  · go_wp2
                    go_ret
                    exact gives_bool rfl (hBW.trans (by5.mono (by omega)))
                  · go_wp2_with fail
                    refine (look_any uB2 nB2 cB2 _ k i _ (VB.out.below cby5) (by omega)).mono ?_
                    rintro e y6 ⟨rfl, hby6⟩
                    rw [← htd.out]
                    have by6 := since_next by5 hby6
                    have cby6 := since_next cby5 hby6
                    obtain ⟨ry6, oy6, sy6, ty6⟩ := hF.out _ by6
                    go_wp2
                    go_ret
                    exact gives_bool rfl (hBW.trans (by6.mono (by omega)))
              · go_wp2_with fail
                refine (look_any u2 n2 c2 _ k i _ (V2.out.below BB2) (by omega)).mono ?_
                rintro e y1 ⟨rfl, hby1⟩
                rw [la.out]
                have by1 := since_next BB2 hby1
                have cby1 := hby1
                obtain ⟨ry1, oy1, sy1, ty1⟩ := hF.out _ by1
                go_wp2_with fail
                refine (look_any u4 n4 c4 _ k i _ (hV4.out.below by1) (by omega)).mono ?_
                rintro e y3 ⟨rfl, hby3⟩
                rw [lc.out]
                have by3 := since_next by1 hby3
                have cby3 := since_next cby1 hby3
                obtain ⟨ry3, oy3, sy3, ty3⟩ := hF.out _ by3
                go_wp2_with fail
                refine (look_any uB2 nB2 cB2 _ k i _ (VB.out.below cby3) (by omega)).mono ?_
                rintro e y4 ⟨rfl, hby4⟩
                rw [← htd.out]
                have by4 := since_next by3 hby4
                have cby4 := since_next cby3 hby4
                obtain ⟨ry4, oy4, sy4, ty4⟩ := hF.out _ by4
                cases td
                · have htf : t = false := by
                    cases t with
                    | false => rfl
                    | true => exact (ld rfl).symm
                  subst htf
                  go_wp2_with fail
                  refine (look_any a n c _ k i _ (VLw.out.below by4) (by omega)).mono ?_
                  rintro e y5 ⟨rfl, hby5⟩
                  rw [← ht.out]
                  have by5 := since_next by4 hby5
                  have cby5 := since_next cby4 hby5
                  obtain ⟨ry5, oy5, sy5, ty5⟩ := hF.out _ by5
                  go_wp2_with fail
                  refine (look_any a n c _ k i _ (VLw.out.below by5) (by omega)).mono ?_
                  rintro e y6 ⟨rfl, hby6⟩
                  rw [← ht.out]
                  have by6 := since_next by5 hby6
                  have cby6 := since_next cby5 hby6
                  obtain ⟨ry6, oy6, sy6, ty6⟩ := hF.out _ by6
                  go_wp2
                  go_ret
                  exact gives_bool rfl (hBW.trans (by6.mono (by omega)))
                · go_wp2_with fail
                  refine (look_any a n c _ k i _ (VLw.out.below by4) (by omega)).mono ?_
                  rintro e y5 ⟨rfl, hby5⟩
                  rw [← ht.out]
                  have by5 := since_next by4 hby5
                  have cby5 := since_next cby4 hby5
                  obtain ⟨ry5, oy5, sy5, ty5⟩ := hF.out _ by5
                  cases t
                  · go_wp2
                    go_ret
                    exact gives_bool rfl (hBW.trans (by5.mono (by omega)))
                  · go_wp2_with fail
                    refine (look_any uB2 nB2 cB2 _ k i _ (VB.out.below cby5) (by omega)).mono ?_
                    rintro e y6 ⟨rfl, hby6⟩
                    rw [← htd.out]
                    have by6 := since_next by5 hby6
                    have cby6 := since_next cby5 hby6
                    obtain ⟨ry6, oy6, sy6, ty6⟩ := hF.out _ by6
                    go_wp2
                    go_ret
                    exact gives_bool rfl (hBW.trans (by6.mono (by omega)))
          exact AllReadyH.nil
        exact AllReadyH.nil
      exact AllReadyH.nil
    refine hreg_event (o := _) rfl (by rfl) (fun K hK => ?_) ?_
    · go_simp
      first
        | skip
      refine hK.out _ _ ?_ (fun hHeld' => ?_)
      · first
          | exact hHeld.next hb
          | exact hHeld
          | exact hHeld.alloc _
          | exact hHeld.setCell (by simp <;> omega) _
          | exact (hHeld.alloc _).alloc _
      replace hHeld := hHeld'
      clear hHeld' hK K
      simp only [Act.put, List.setIfInBounds_toArray, List.set_cons_zero, List.set_cons_succ]
      refine wpAnyH_ready (rs := [0]) (by kernel_rfl) (by simp) ?_
      refine hreg_event (o := _) rfl (by rfl) (fun K hK => ?_) ?_
      · go_simp
        first
          | skip
        refine hK.out _ _ ?_ (fun hHeld' => ?_)
        · first
            | exact hHeld.next hb
            | exact hHeld
            | exact hHeld.alloc _
            | exact hHeld.setCell (by simp <;> omega) _
            | exact (hHeld.alloc _).alloc _
        replace hHeld := hHeld'
        clear hHeld' hK K
        simp only [Act.put, List.setIfInBounds_toArray, List.set_cons_zero, List.set_cons_succ]
        refine wpAnyH_ready (rs := [2]) (by kernel_rfl) (by simp) ?_
        refine hreg_event (o := _) rfl (by rfl) (fun K hK => ?_) ?_
        · go_simp
          first
            | (rw [hC1.out]; go_simp)
            | skip
          refine hK.out _ _ ?_ (fun hHeld' => ?_)
          · first
              | exact ⟨BC1⟩
              | exact hHeld.next hb
              | exact hHeld
              | exact hHeld.alloc _
              | exact hHeld.setCell (by simp <;> omega) _
              | exact (hHeld.alloc _).alloc _
          replace hHeld := hHeld'
          clear hHeld' hK K
          simp only [Act.put, List.setIfInBounds_toArray, List.set_cons_zero, List.set_cons_succ]
          refine wpAnyH_ready (rs := [7]) (by kernel_rfl) (by simp) ?_
          refine hreg_event (o := _) rfl (by rfl) (fun K hK => ?_) ?_
          · go_simp
            first
              | (rw [hC2.out]; go_simp)
              | skip
            refine hK.out _ _ ?_ (fun hHeld' => ?_)
            · first
                | exact ⟨BC2⟩
                | exact hHeld.next hb
                | exact hHeld
                | exact hHeld.alloc _
                | exact hHeld.setCell (by simp <;> omega) _
                | exact (hHeld.alloc _).alloc _
            replace hHeld := hHeld'
            clear hHeld' hK K
            simp only [Act.put, List.setIfInBounds_toArray, List.set_cons_zero, List.set_cons_succ]
            refine hreg_take (i := 8) rfl (by kernel_rfl) (by kernel_rfl) (by kernel_rfl) hreg_panic (by rfl) hHeld ?_
            apply Exists.intro
            refine ⟨fun w' hw' => ?_, ?_⟩
            · have hf := hall w' hw'
              go_simp
              try go_bits
              exact yieldsV_mk rfl
            simp only [Act.put, List.setIfInBounds_toArray, List.set_cons_zero, List.set_cons_succ]
            refine wpAnyH_done (by kernel_rfl) ?_ _
            refine NoPanic.normal ?_
            obtain ⟨fx1, fx2, fx3, fx4⟩ := hF.out _ BC2
            clear hall hHeld
            cases is
            all_goals
              cases hok : (o == k)
              · go_wp2_with fail
                refine (look_any u2 n2 c2 _ k i _ (V2.out.below BC2) (by omega)).mono ?_
                rintro e y1 ⟨rfl, hby1⟩
                rw [la.out]
                have by1 := since_next BC2 hby1
                have cby1 := hby1
                obtain ⟨ry1, oy1, sy1, ty1⟩ := hF.out _ by1
                go_wp2_with fail
                refine (look_any u3 n3 c3 _ k i _ (V3.out.below by1) (by omega)).mono ?_
                rintro e y2 ⟨rfl, hby2⟩
                rw [lb.out hok]
                have by2 := since_next by1 hby2
                have cby2 := since_next cby1 hby2
                obtain ⟨ry2, oy2, sy2, ty2⟩ := hF.out _ by2
                go_wp2_with fail
                refine (look_any u4 n4 c4 _ k i _ (hV4.out.below by2) (by omega)).mono ?_
                rintro e y3 ⟨rfl, hby3⟩
                rw [lc.out]
                have by3 := since_next by2 hby3
                have cby3 := since_next cby2 hby3
                obtain ⟨ry3, oy3, sy3, ty3⟩ := hF.out _ by3
                go_wp2_with fail
                refine (look_any uC2 nC2 cC2 _ k i _ (VC.out.below cby3) (by omega)).mono ?_
                rintro e y4 ⟨rfl, hby4⟩
                rw [← htd.out]
                have by4 := since_next by3 hby4
                have cby4 := since_next cby3 hby4
                obtain ⟨ry4, oy4, sy4, ty4⟩ := hF.out _ by4
                cases td
                · have htf : t = false := by
                    cases t with
                    | false => rfl
                    | true => exact (ld rfl).symm
                  subst htf
                  go_wp2_with fail
                  refine (look_any a n c _ k i _ (VLw.out.below by4) (by omega)).mono ?_
                  rintro e y5 ⟨rfl, hby5⟩
                  rw [← ht.out]
                  have by5 := since_next by4 hby5
                  have cby5 := since_next cby4 hby5
                  obtain ⟨ry5, oy5, sy5, ty5⟩ := hF.out _ by5
                  go_wp2_with fail
                  refine (look_any a n c _ k i _ (VLw.out.below by5) (by omega)).mono ?_
                  rintro e y6 ⟨rfl, hby6⟩
                  rw [← ht.out]
                  have by6 := since_next by5 hby6
                  have cby6 := since_next cby5 hby6
                  obtain ⟨ry6, oy6, sy6, ty6⟩ := hF.out _ by6
                  go_wp2
                  go_ret
                  exact gives_bool rfl (hBW.trans (by6.mono (by omega)))
                · go_wp2_with fail
                  refine (look_any a n c _ k i _ (VLw.out.below by4) (by omega)).mono ?_
                  rintro e y5 ⟨rfl, hby5⟩
                  rw [← ht.out]
                  have by5 := since_next by4 hby5
                  have cby5 := since_next cby4 hby5
                  obtain ⟨ry5, oy5, sy5, ty5⟩ := hF.out _ by5
                  cases t
                  · go_wp2
                    go_ret
                    exact gives_bool rfl (hBW.trans (by5.mono (by omega)))
                  · go_wp2_with fail
                    refine (look_any uC2 nC2 cC2 _ k i _ (VC.out.below cby5) (by omega)).mono ?_
                    rintro e y6 ⟨rfl, hby6⟩
                    rw [← htd.out]
                    have by6 := since_next by5 hby6
                    have cby6 := since_next cby5 hby6
                    obtain ⟨ry6, oy6, sy6, ty6⟩ := hF.out _ by6
                    go_wp2
                    go_ret
                    exact gives_bool rfl (hBW.trans (by6.mono (by omega)))
              · go_wp2_with fail
                refine (look_any u2 n2 c2 _ k i _ (V2.out.below BC2) (by omega)).mono ?_
                rintro e y1 ⟨rfl, hby1⟩
                rw [la.out]
                have by1 := since_next BC2 hby1
                have cby1 := hby1
                obtain ⟨ry1, oy1, sy1, ty1⟩ := hF.out _ by1
                go_wp2_with fail
                refine (look_any u4 n4 c4 _ k i _ (hV4.out.below by1) (by omega)).mono ?_
                rintro e y3 ⟨rfl, hby3⟩
                rw [lc.out]
                have by3 := since_next by1 hby3
                have cby3 := since_next cby1 hby3
                obtain ⟨ry3, oy3, sy3, ty3⟩ := hF.out _ by3
                go_wp2_with fail
                refine (look_any uC2 nC2 cC2 _ k i _ (VC.out.below cby3) (by omega)).mono ?_
                rintro e y4 ⟨rfl, hby4⟩
                rw [← htd.out]
                have by4 := since_next by3 hby4
                have cby4 := since_next cby3 hby4
                obtain ⟨ry4, oy4, sy4, ty4⟩ := hF.out _ by4
                cases td
                · have htf : t = false := by
                    cases t with
                    | false => rfl
                    | true => exact (ld rfl).symm
                  subst htf
                  go_wp2_with fail
                  refine (look_any a n c _ k i _ (VLw.out.below by4) (by omega)).mono ?_
                  rintro e y5 ⟨rfl, hby5⟩
                  rw [← ht.out]
                  have by5 := since_next by4 hby5
                  have cby5 := since_next cby4 hby5
                  obtain ⟨ry5, oy5, sy5, ty5⟩ := hF.out _ by5
                  go_wp2_with fail
                  refine (look_any a n c _ k i _ (VLw.out.below by5) (by omega)).mono ?_
                  rintro e y6 ⟨rfl, hby6⟩
                  rw [← ht.out]
                  have by6 := since_next by5 hby6
                  have cby6 := since_next cby5 hby6
                  obtain ⟨ry6, oy6, sy6, ty6⟩ := hF.out _ by6
                  go_wp2
                  go_ret
                  exact gives_bool rfl (hBW.trans (by6.mono (by omega)))
                · go_wp2_with fail
                  refine (look_any a n c _ k i _ (VLw.out.below by4) (by omega)).mono ?_
                  rintro e y5 ⟨rfl, hby5⟩
                  rw [← ht.out]
                  have by5 := since_next by4 hby5
                  have cby5 := since_next cby4 hby5
                  obtain ⟨ry5, oy5, sy5, ty5⟩ := hF.out _ by5
                  cases t
                  · go_wp2
                    go_ret
                    exact gives_bool rfl (hBW.trans (by5.mono (by omega)))
                  · go_wp2_with fail
                    refine (look_any uC2 nC2 cC2 _ k i _ (VC.out.below cby5) (by omega)).mono ?_
                    rintro e y6 ⟨rfl, hby6⟩
                    rw [← htd.out]
                    have by6 := since_next by5 hby6
                    have cby6 := since_next cby5 hby6
                    obtain ⟨ry6, oy6, sy6, ty6⟩ := hF.out _ by6
                    go_wp2
                    go_ret
                    exact gives_bool rfl (hBW.trans (by6.mono (by omega)))
          exact AllReadyH.nil
        exact AllReadyH.nil
      exact AllReadyH.nil
    exact AllReadyH.nil

end Go.Proofs.Ytpgaibihfplhcaa
