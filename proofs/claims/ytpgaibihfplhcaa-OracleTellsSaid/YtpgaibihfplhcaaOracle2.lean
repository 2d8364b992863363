/- The contracts of package oracle: Good; what is shown. -/
import Derived.Test.YtpgaibihfplhcaaOracle
import Derived.Test.YtpgaibihfplhcaaLawEnd
namespace Go.Proofs.Ytpgaibihfplhcaa
open Go.RowKit
set_option linter.unusedVariables false
set_option linter.unusedSimpArgs false
attribute [local irreducible] Int.lt Int.le
attribute [local go_sem ↓] load_key store_key alloc_key build0_key one_key eq_key build1_key load_ver store_ver alloc_ver one_ver make_ver append_ver build3_ver eq_ver
attribute [local go_sem] rowOf_drew rowOf_alloc_old rowOf_alloc_new canPut_drew canPut_alloc_old canPut_alloc_new setCells_alloc_new

/-- A row of rows, one of them stored anew. -/
theorem row_set_elem {α : Type} {f : α → List Value} {n : Nat} (hf : ∀ x, (f x).length = n) {w : World} {b : Nat} {l : List α} (h : rowOf w b 0 (l.length * n) = some (rows f l)) (hp : canPut w b 0 (l.length * n) = true) {i : Nat} (hi : i < l.length) (x : α) :
    rowOf (w.setCells b (i * n) (f x)) b 0 (l.length * n) = some (rows f (l.set i x)) := by
  have e : l = l.take i ++ l[i] :: l.drop (i + 1) := by rw [← List.drop_eq_getElem_cons hi, List.take_append_drop]
  have es : l.set i x = l.take i ++ x :: l.drop (i + 1) := by rw [List.set_eq_take_append_cons_drop, if_pos hi]
  have hlt : (l.take i).length = i := by rw [List.length_take]; omega
  have hN : l.length * n = i * n + (n + (l.length - (i + 1)) * n) := by
    have : l.length = i + (1 + (l.length - (i + 1))) := by omega
    conv => lhs; rw [this, Nat.add_mul, Nat.add_mul, Nat.one_mul]
  have h1 := rowOf_sub h 0 (i * n) (by rw [hN]; omega)
  have h3 := rowOf_sub h (i * n + n) ((l.length - (i + 1)) * n) (by rw [hN]; omega)
  rw [Nat.zero_add, List.drop_zero, rows_take hf l i (by omega)] at h1
  rw [Nat.zero_add, show i * n + n = (i + 1) * n from by rw [Nat.add_mul, Nat.one_mul], rows_drop hf l (i + 1) (by omega), List.take_of_length_le (by rw [rows_length hf, List.length_drop]; exact Nat.le_refl _)] at h3
  have hth : w.there b (i * n) (f x).length := by
    rw [hf]
    have := canPut_there.1 hp
    intro j hj
    have := this (i * n + j) (by rw [hN]; omega)
    rwa [Nat.zero_add] at this
  have k2 := rowOf_of_rangeAt (World.rangeAt_setCells_same w b (i * n) (f x) hth) (hf x)
  have k1 := rowOf_of_rangeAt (World.rangeAt_setCells_apart (rangeAt_of_rowOf h1) b (i * n) (f x) (.inr (.inl (by rw [rows_length hf, hlt]; omega)))) (by rw [rows_length hf, hlt] : (rows f (l.take i)).length = i * n)
  have k3 := rowOf_of_rangeAt (World.rangeAt_setCells_apart (rangeAt_of_rowOf h3) b (i * n) (f x) (.inr (.inr (by rw [hf, Nat.add_mul, Nat.one_mul]; exact Nat.le_refl _)))) (by rw [rows_length hf, List.length_drop] : (rows f (l.drop (i + 1))).length = (l.length - (i + 1)) * n)
  rw [show (i + 1) * n = i * n + n from by rw [Nat.add_mul, Nat.one_mul]] at k3
  have k23 := rowOf_join k2 k3
  have := rowOf_join k1 (by rw [Nat.zero_add]; exact k23)
  rw [hN, this, es, rows_append, rows_cons]

theorem setCells_size' (b : Nat) : ∀ (cs : List Value) (o : Nat) (w : World), (w.setCells b o cs).heap.size = w.heap.size
  | [], o, w => rfl
  | v :: cs, o, w => by
    show ((w.setCell ⟨b, o, none⟩ v).setCells b (o + 1) cs).heap.size = _
    rw [setCells_size' b cs]
    simp [World.setCell]
theorem below_setCells' {B b : Nat} (hB : B ≤ b) : ∀ (cs : List Value) (o : Nat) (W w : World), Below B W w → Below B W (w.setCells b o cs)
  | [], o, W, w, h => h
  | v :: cs, o, W, w, h => below_setCells' hB cs (o + 1) W _ (Below.setCell h hB v)

def goodL (k : Key) (m : Nat) : List Verd := (List.range m).map fun (i : Nat) => ⟨k, i, true⟩
def midG (k : Key) (m j : Nat) : List Verd := goodL k j ++ List.replicate (m - j) zeroVer
theorem goodL_length (k : Key) (m : Nat) : (goodL k m).length = m := by unfold goodL; simp
theorem midG_length {k : Key} {m j : Nat} (h : j ≤ m) : (midG k m j).length = m := by unfold midG; rw [List.length_append, goodL_length, List.length_replicate]; omega
theorem midG_get {k : Key} {m j : Nat} (h : j < m) : (midG k m j)[j]? = some zeroVer := by
  unfold midG
  rw [List.getElem?_append_right (by rw [goodL_length]; exact Nat.le_refl _), goodL_length, Nat.sub_self, List.getElem?_replicate, if_pos (by omega)]
theorem midG_set {k : Key} {m j : Nat} (h : j < m) : (midG k m j).set j ⟨k, j, true⟩ = midG k m (j + 1) := by
  unfold midG
  rw [List.set_append_right _ _ (by rw [goodL_length]; exact Nat.le_refl _), goodL_length, Nat.sub_self, show m - j = (m - (j + 1)) + 1 from by omega, List.replicate_succ, List.set_cons_zero]
  unfold goodL
  rw [List.range_succ, List.map_append, List.append_assoc]
  rfl
theorem midG_all (k : Key) (m : Nat) : midG k m m = goodL k m := by unfold midG; simp
theorem verB_zero (k : Key) (i : Int) : verB ⟨k, i, true⟩ zeroVer = false := by
  unfold verB zeroVer
  simp

/-- What Good gives: a slice of verdicts of its own. -/
def VPost (l : List Verd) (w : World) (e : Ending) (w' : World) : Prop := ∃ a n c, e = .returned (.slice a n c) ∧ VL w' a n c l ∧ n = l.length ∧ Below w.heap.size w w' ∧ (∀ x, a = some x → w.heap.size ≤ x.block)

set_option maxHeartbeats 2000000 in
theorem good_any (k : Key) (m : Nat) (W : World) (hm : m ≤ 1000) : Calls Try.prog 19 #[.agg (keyC k).toArray, .int .i64 m] W (VPost (goodL k m) W) := by
  have hm' : (m : Int) ≤ 1000 := by omega
  go_enter Try.func19, Try.ntmps19
  go_wp2_with fail
  have hB0 : Below W.heap.size W (W.alloc (.cells (keyC k).toArray 23)) := (Below.refl _ _).alloc (Nat.le_refl _) _
  have hr0 : rowOf (W.alloc (.cells (keyC k).toArray 23)) W.heap.size 0 32 = some (keyC k) := rowOf_alloc_new _ _ _ _ _ _ rfl (keyC_length k)
  obtain ⟨w1, hw1⟩ : ∃ w1, w1 = W.alloc (.cells (keyC k).toArray 23) := ⟨_, rfl⟩
  have hsz1 : w1.heap.size = W.heap.size + 1 := by rw [hw1]; simp
  rw [← hw1] at hB0 hr0 ⊢
  replace hw1 := Box.mk hw1
  have hlen0 : (List.replicate m zeroVer).length = m := List.length_replicate
  have e0 : midG k m 0 = List.replicate m zeroVer := by unfold midG goodL; simp
  have hg0 : rowOf (w1.alloc (.cells (rows verC (List.replicate m zeroVer)).toArray 40)) w1.heap.size 0 (m * 34) = some (rows verC (midG k m 0)) := by
    rw [e0]
    exact rowOf_alloc_new _ _ _ _ _ _ rfl (by rw [rows_length verC_length, hlen0])
  have hp0 : canPut (w1.alloc (.cells (rows verC (List.replicate m zeroVer)).toArray 40)) w1.heap.size 0 (m * 34) = true := canPut_alloc_new _ _ _ _ _ _ rfl (by rw [rows_length verC_length, hlen0]; omega)
  have hB1 : Below w1.heap.size w1 (w1.alloc (.cells (rows verC (List.replicate m zeroVer)).toArray 40)) := (Below.refl _ _).alloc (Nat.le_refl _) _
  have hs1 : w1.heap.size < (w1.alloc (.cells (rows verC (List.replicate m zeroVer)).toArray 40)).heap.size := by simp
  rw [← hsz1]
  generalize w1.alloc (.cells (rows verC (List.replicate m zeroVer)).toArray 40) = w2 at *
  replace e0 := Box.mk e0
  replace hsz1 := Box.mk hsz1
  replace hB0 := Box.mk hB0
  clear hlen0
  go_loopw [6, 7, 18] (fun _ _ i wr => Below w1.heap.size w1 wr ∧ w1.heap.size < wr.heap.size ∧ ∃ j : Nat, j ≤ m ∧ i = .int .i64 j ∧ rowOf wr w1.heap.size 0 (m * 34) = some (rows verC (midG k m j)) ∧ canPut wr w1.heap.size 0 (m * 34) = true) (fun _ _ i _ => m - (intOf i).toNat)
  case atStart => exact ⟨hB1, hs1, 0, Nat.zero_le _, rfl, hg0, hp0⟩
  case round =>
    obtain ⟨hbr, hlt1, j, hj, rfl, hg, hp⟩ := hrel
    have hsz := hbr.size
    by_cases hlt : j < m
    · have hlt' : (j : Int) < (m : Int) := by omega
      have R2 : rowOf wr W.heap.size 0 32 = some (keyC k) := by rw [rowOf_congr (hbr.block _ (by have := hsz1.out; omega))]; exact hr0
      have s2 : W.heap.size < wr.heap.size := by have := hsz1.out; omega
      have hN : (midG k m j).length = m := midG_length hj
      have hel : rowOf wr w1.heap.size (j * 34) 34 = some (verC zeroVer) := by
        have := rowOf_sub hg (j * 34) 34 (by have : (j + 1) * 34 ≤ m * 34 := Nat.mul_le_mul_right _ hlt; omega)
        rw [Nat.zero_add, rows_elem verC_length (midG_get hlt)] at this
        exact this
      have hvz := verB_zero k j
      go_wp2_with fail
      obtain ⟨w3, hw3⟩ : ∃ w3, w3 = wr.alloc (.cells (verC ⟨k, j, true⟩).toArray 40) := ⟨_, rfl⟩
      have hsz3 : w3.heap.size = wr.heap.size + 1 := by rw [hw3]; simp
      have hB3 : Below wr.heap.size wr w3 := by rw [hw3]; exact (Below.refl _ _).alloc (Nat.le_refl _) _
      have V1 : rowOf w3 wr.heap.size 0 34 = some (verC ⟨k, j, true⟩) := by rw [hw3]; exact rowOf_alloc_new _ _ _ _ _ _ rfl (verC_length _)
      have V2 : rowOf w3 w1.heap.size (j * 34) 34 = some (verC zeroVer) := by rw [rowOf_congr (hB3.block _ hlt1)]; exact hel
      have s3 : wr.heap.size < w3.heap.size := by omega
      have s4 : w1.heap.size < w3.heap.size := by omega
      have V3 : rowOf w3 w1.heap.size 0 (m * 34) = some (rows verC (midG k m j)) := by rw [rowOf_congr (hB3.block _ hlt1)]; exact hg
      have V4 : canPut w3 w1.heap.size 0 (m * 34) = true := by rw [canPut_congr (hB3.block _ hlt1)]; exact hp
      rw [← hw3]
      replace hw3 := Box.mk hw3
      replace hsz3 := Box.mk hsz3
      replace hN := Box.mk hN
      replace hg := Box.mk hg
      replace hp := Box.mk hp
      replace V3 := Box.mk V3
      replace V4 := Box.mk V4
      clear hel
      (refine region_since (by kernel_rfl) (by kernel_rfl) ?_)
      repeat (first
        | (refine wpQuiet_goff rfl rfl rfl rfl ?_; simp only [Act.put, List.setIfInBounds_toArray, List.set_cons_succ, List.set_cons_zero])
        | (first
             | refine wpQuiet_free rfl ?_
             | refine wpQuiet_gon rfl rfl rfl rfl ?_
           apply Exists.intro
           refine ⟨fun w' hw' => ?_, ?_⟩
           · (obtain ⟨hc', hr', hs'⟩ := since_facts hw'
              unfold Oper.quietAt
              go_simp
              try go_bits
              first
                | exact quietUpon_value rfl
                | (apply quietUpon_enter
                   first
                   | fail))
           simp only [Act.put, List.setIfInBounds_toArray, List.set_cons_succ, List.set_cons_zero]))
      first
        | refine wpQuiet_nil ?_
        | fail "QUIET stopped"
      intro wq hwq'
      have U1 : rowOf wq wr.heap.size 0 34 = some (verC ⟨k, j, true⟩) := by rw [rowOf_congr (Below.block hwq' _ s3)]; exact V1
      have U3 : rowOf wq w1.heap.size 0 (m * 34) = some (rows verC (midG k m j)) := by rw [rowOf_congr (Below.block hwq' _ s4)]; exact V3.out
      have U4 : canPut wq w1.heap.size 0 (m * 34) = true := by rw [canPut_congr (Below.block hwq' _ s4)]; exact V4.out
      have U5 : canPut wq w1.heap.size (j * 34) 34 = true := canPut_there.2 fun t ht => by
        have := canPut_there.1 U4 (j * 34 + t) (by have : (j + 1) * 34 ≤ m * 34 := Nat.mul_le_mul_right _ hlt; omega)
        rwa [Nat.zero_add] at this
      have hset := row_set_elem verC_length (w := wq) (b := w1.heap.size) (l := midG k m j) (by rw [hN.out]; exact U3) (by rw [hN.out]; exact U4) (by rw [hN.out]; exact hlt) ⟨k, j, true⟩
      rw [hN.out, midG_set hlt] at hset
      have hpn : canPut (wq.setCells w1.heap.size (j * 34) (verC ⟨k, j, true⟩)) w1.heap.size 0 (m * 34) = true := canPut_there.2 (World.there_setCells (canPut_there.1 U4) _ _ _)
      have hbq : Below w1.heap.size w1 (wq.setCells w1.heap.size (j * 34) (verC ⟨k, j, true⟩)) := below_setCells' (Nat.le_refl _) _ _ _ _ (hbr.trans ((hB3.trans (Below.mono hwq' (by have := hsz3.out; omega))).mono hsz))
      have hsq : w1.heap.size < (wq.setCells w1.heap.size (j * 34) (verC ⟨k, j, true⟩)).heap.size := by rw [setCells_size']; have := Below.size hwq'; omega
      have s5 : wr.heap.size < wq.heap.size := by have := Below.size hwq'; omega
      have s6 : w1.heap.size < wq.heap.size := by omega
      replace hset := Box.mk hset
      replace hpn := Box.mk hpn
      replace hbq := Box.mk hbq
      replace hsq := Box.mk hsq
      replace U3 := Box.mk U3
      replace U4 := Box.mk U4
      go_wp2
      go_roundw
      case rel => exact ⟨hbq.out, hsq.out, j + 1, by omega, by go_num, hset.out, hpn.out⟩
      case measure => simp [intOf]; omega
    · obtain rfl : j = m := by omega
      rw [midG_all] at hg
      replace hp := Box.mk hp
      replace hg := Box.mk hg
      go_wp2
      go_ret
      refine ⟨_, _, _, rfl, ⟨(goodL_length k j).symm, Nat.le_refl _, by unfold maxLen; omega, (fun h => nomatch h), fun _ => ⟨w1.heap.size, 0, rfl, hlt1, by rw [goodL_length]; exact hg.out⟩⟩, (goodL_length k j).symm, hB0.out.trans (hbr.mono (by have := hsz1.out; omega)), fun x hx => ?_⟩
      injection hx with hx
      subst hx
      have := hsz1.out
      show W.heap.size ≤ w1.heap.size
      omega

theorem good_none (k : Key) (m : Int) (W : World) (hm : m < 0 ∨ 1000 < m) : Calls Try.prog 19 #[.agg (keyC k).toArray, .int .i64 m] W (VPost [] W) := by
  have hB0 : Below W.heap.size W (W.alloc (.cells (keyC k).toArray 23)) := (Below.refl _ _).alloc (Nat.le_refl _) _
  replace hB0 := Box.mk hB0
  rcases hm with h | h
  · go_enter Try.func19, Try.ntmps19
    go_wp2
    go_ret
    exact ⟨_, _, _, rfl, ⟨rfl, Nat.le_refl _, by unfold maxLen; omega, fun _ => rfl, fun h => absurd rfl h⟩, rfl, hB0.out, fun x hx => nomatch hx⟩
  · have h' : ¬ m < 0 := by omega
    go_enter Try.func19, Try.ntmps19
    go_wp2
    go_ret
    exact ⟨_, _, _, rfl, ⟨rfl, Nat.le_refl _, by unfold maxLen; omega, fun _ => rfl, fun h => absurd rfl h⟩, rfl, hB0.out, fun x hx => nomatch hx⟩

theorem hitB_at (k : Key) (i j : Int) (b : Bool) : hitB ⟨k, i, b⟩ k j = (i == j) := by unfold hitB; simp
theorem lookL_append (l m : List Verd) (k : Key) (i : Int) : lookL (l ++ m) k i = if (l.any fun v => hitB v k i) then lookL l k i else lookL m k i := by
  induction l with
  | nil => simp
  | cons v l ih =>
    rw [List.cons_append, lookL_cons, lookL_cons, List.any_cons, ih]
    cases hitB v k i <;> simp
theorem goodL_any (k : Key) (m : Nat) (i : Nat) : ((goodL k m).any fun v => hitB v k i) = decide (i < m) := by
  unfold goodL
  rw [List.any_map]
  rw [Bool.eq_iff_iff, List.any_eq_true, decide_eq_true_iff]
  constructor
  · rintro ⟨j, hj, h⟩
    have hj' : j < m := by simpa using hj
    simp only [Function.comp, hitB_at, beq_iff_eq] at h
    omega
  · intro h
    exact ⟨i, by simpa using h, by simp only [Function.comp, hitB_at]; simp⟩
theorem lookL_good (k : Key) (m i : Nat) : lookL (goodL k m) k i = decide (i < m) := by
  induction m with
  | zero => unfold goodL; simp [lookL_nil]
  | succ m ih =>
    have e : goodL k (m + 1) = goodL k m ++ [⟨k, m, true⟩] := by unfold goodL; rw [List.range_succ, List.map_append]; rfl
    rw [e, lookL_append, goodL_any, ih, lookL_cons, lookL_nil, hitB_at]
    by_cases h : i < m
    · simp [h]; omega
    · by_cases h2 : i = m
      · subst h2; simp
      · have : ((m : Int) == (i : Int)) = false := by simp; omega
        rw [this]
        simp [h]
        omega
theorem VL.nil (w : World) : VL w none 0 0 [] := ⟨rfl, Nat.le_refl _, by unfold maxLen; omega, fun _ => rfl, fun h => absurd rfl h⟩

set_option maxHeartbeats 1000000 in
theorem shown15 (W : World) : Calls Try.prog 18 #[] W (Gives (.bool true) W) := by
  go_enter Try.func18, Try.ntmps18
  go_wp2_with fail
  refine (good_any (key1 1) 2 _ (by omega)).mono ?_
  rintro e w1 ⟨a, n, c, rfl, hV, hn, hb1, _⟩
  rw [goodL_length] at hn
  subst hn
  replace hV := Box.mk hV
  go_wp2_with fail
  refine (look_any a 2 c _ (key1 1) 1 _ hV.out (by omega)).mono ?_
  rintro e w2 ⟨rfl, hb2⟩
  rw [show lookL (goodL (key1 1) 2) (key1 1) 1 = true from lookL_good (key1 1) 2 1]
  go_wp2_with fail
  refine (look_any a 2 c _ (key1 1) 2 _ (hV.out.below hb2) (by omega)).mono ?_
  rintro e w3 ⟨rfl, hb3⟩
  rw [show lookL (goodL (key1 1) 2) (key1 1) 2 = false from lookL_good (key1 1) 2 2]
  go_wp2_with fail
  refine (all_any none 0 0 [] zeroKey 0 _ (VL.nil _) (by omega) (by omega)).mono ?_
  rintro e w4 ⟨rfl, hb4⟩
  rw [show allB [] zeroKey 0 = true from rfl]
  go_wp2
  go_ret
  exact gives_bool rfl (since_next (since_next (since_next hb1 hb2) hb3) hb4)

end Go.Proofs.Ytpgaibihfplhcaa
