/- The contracts of package oracle: Look, All, Good. -/
import Derived.Test.YtpgaibihfplhcaaVerd
import Derived.Test.YtpgaibihfplhcaaHeld
import Derived.Test.YtpgaibihfplhcaaHReg
import Derived.Test.YtpgaibihfplhcaaSince
import Derived.WalkLawsBesides
import Derived.WalkSpells
import Derived.Lib.Hide
namespace Go.Proofs.Ytpgaibihfplhcaa
open Go.RowKit
set_option linter.unusedVariables false
set_option linter.unusedSimpArgs false
attribute [local irreducible] Int.lt Int.le
attribute [local go_sem ↓] load_key store_key alloc_key build0_key one_key eq_key build1_key load_ver store_ver alloc_ver one_ver make_ver append_ver build3_ver eq_ver
attribute [local go_sem] rowOf_drew rowOf_alloc_old rowOf_alloc_new canPut_drew canPut_alloc_old canPut_alloc_new setCells_alloc_new

/-- A fact out of the walk's sight. -/
structure Box (p : Prop) : Prop where
  out : p

/-- What verdicts say of an item. -/
def lookL (l : List Verd) (k : Key) (i : Int) : Bool :=
  match l.find? (fun v => v.tx == k && v.item == i) with
  | some v => v.good
  | none => false
def hitB (v : Verd) (k : Key) (i : Int) : Bool := v.tx == k && v.item == i
theorem lookL_nil (k : Key) (i : Int) : lookL [] k i = false := rfl
theorem lookL_cons (v : Verd) (l : List Verd) (k : Key) (i : Int) : lookL (v :: l) k i = if hitB v k i then v.good else lookL l k i := by
  unfold lookL hitB
  rw [List.find?_cons]
  cases (v.tx == k && v.item == i) <;> rfl
theorem verB_hit (v : Verd) (k : Key) (i : Int) (b : Bool) : verB v ⟨k, i, b⟩ = (hitB v k i && (v.good == b)) := rfl
theorem lookL_drop {l : List Verd} {j : Nat} {v : Verd} (hx : l[j]? = some v) (k : Key) (i : Int) : lookL (l.drop j) k i = if hitB v k i then v.good else lookL (l.drop (j + 1)) k i := by
  have h := List.getElem?_eq_some_iff.1 hx
  rw [List.drop_eq_getElem_cons h.1, h.2, lookL_cons]

set_option maxHeartbeats 1000000 in
theorem look_any (a : Option Addr) (n c : Nat) (l : List Verd) (k : Key) (i0 : Int) (W : World) (h : VL W a n c l) (hn : n ≤ 100000) : Calls Try.prog 21 #[.slice a n c, .agg (keyC k).toArray, .int .i64 i0] W (Gives (.bool (lookL l k i0)) W) := by
  have hl := Box.mk h.1
  have H := Box.mk h
  clear h
  go_enter Try.func21, Try.ntmps21
  go_wp2_with fail
  have hB0 : Below W.heap.size W (W.alloc (.cells (keyC k).toArray 23)) := (Below.refl _ _).alloc (Nat.le_refl _) _
  have hr0 : rowOf (W.alloc (.cells (keyC k).toArray 23)) W.heap.size 0 32 = some (keyC k) := rowOf_alloc_new _ _ _ _ _ _ rfl (keyC_length k)
  obtain ⟨w1, hw1⟩ : ∃ w1, w1 = W.alloc (.cells (keyC k).toArray 23) := ⟨_, rfl⟩
  have hsz1 : w1.heap.size = W.heap.size + 1 := by rw [hw1]; simp
  rw [← hw1] at hB0 hr0 ⊢
  replace hw1 := Box.mk hw1
  go_loopw [8, 11] (fun _ i wr => Below w1.heap.size w1 wr ∧ ∃ j : Nat, j ≤ n ∧ i = .int .i64 j ∧ lookL l k i0 = lookL (l.drop j) k i0) (fun _ i _ => n - (intOf i).toNat)
  case atStart => exact ⟨Below.refl _ _, 0, Nat.zero_le _, rfl, by rw [List.drop_zero]⟩
  case round =>
    obtain ⟨hbr, j, hj, rfl, hlk⟩ := hrel
    have hsz := hbr.size
    by_cases hlt : j < n
    · have hlt' : (j : Int) < (n : Int) := by omega
      have hjl : j < l.length := by rw [← hl.out]; exact hlt
      have hx : l[j]? = some l[j] := List.getElem?_eq_getElem hjl
      obtain ⟨b, o, rfl, hb, hr⟩ := SL.elem verC_length H.out hx
      have R1 : rowOf wr b (o + j * 34) 34 = some (verC l[j]) := by rw [rowOf_congr (hbr.block b (by omega)), rowOf_congr (hB0.block b hb)]; exact hr
      have R2 : rowOf wr W.heap.size 0 32 = some (keyC k) := by rw [rowOf_congr (hbr.block _ (by omega))]; exact hr0
      have s1 : b < wr.heap.size := by omega
      have s2 : W.heap.size < wr.heap.size := by omega
      have hd := lookL_drop hx k i0
      generalize l[j] = v at *
      replace hx := Box.mk hx
      replace hr := Box.mk hr
      rw [hd] at hlk
      replace hd := Box.mk hd
      cases hh : hitB v k i0
      · rw [hh] at hlk
        have e1 : verB v ⟨k, i0, true⟩ = false := by rw [verB_hit, hh]; rfl
        have e2 : verB v ⟨k, i0, false⟩ = false := by rw [verB_hit, hh]; rfl
        replace hlk := Box.mk hlk
        replace hh := Box.mk hh
        go_wp2_with fail
        exact ⟨⟨hbr.alloc hsz _, j + 1, by omega, by go_num, hlk.out⟩, by simp [intOf]; omega⟩
      · rw [hh, if_pos rfl] at hlk
        cases hg : v.good
        · rw [hg] at hlk
          have e1 : verB v ⟨k, i0, true⟩ = false := by rw [verB_hit, hh, hg]; rfl
          have e2 : verB v ⟨k, i0, false⟩ = true := by rw [verB_hit, hh, hg]; rfl
          replace hlk := Box.mk hlk
          replace hh := Box.mk hh
          replace hg := Box.mk hg
          go_wp2
          go_ret
          exact gives_bool hlk.out.symm (hB0.trans ((hbr.alloc hsz _).mono (by omega)))
        · rw [hg] at hlk
          have e1 : verB v ⟨k, i0, true⟩ = true := by rw [verB_hit, hh, hg]; rfl
          replace hlk := Box.mk hlk
          replace hh := Box.mk hh
          replace hg := Box.mk hg
          go_wp2
          go_ret
          exact gives_bool hlk.out.symm (hB0.trans ((hbr.alloc hsz _).mono (by omega)))
    · obtain rfl : j = n := by omega
      have hf : lookL l k i0 = false := by rw [hlk, hl.out, List.drop_length]; rfl
      replace hf := Box.mk hf
      replace hlk := Box.mk hlk
      go_wp2
      go_ret
      exact gives_bool hf.out.symm (hB0.trans (hbr.mono (by omega)))

/-- All items so many are good. -/
def allB (l : List Verd) (k : Key) (m : Int) : Bool := (List.range m.toNat).all fun i => lookL l k i
theorem allB_true {l : List Verd} {k : Key} {m : Nat} (h : ∀ i, i < m → lookL l k i = true) : allB l k m = true := by
  unfold allB
  rw [List.all_eq_true]
  intro i hi
  exact h i (by simpa using hi)
theorem allB_false {l : List Verd} {k : Key} {m i : Nat} (hi : i < m) (h : lookL l k i = false) : allB l k m = false := by
  cases e : allB l k m with
  | false => rfl
  | true =>
    unfold allB at e
    rw [List.all_eq_true] at e
    have := e i (by simpa using hi)
    rw [h] at this
    cases this

set_option maxHeartbeats 1000000 in
theorem all_any (a : Option Addr) (n c : Nat) (l : List Verd) (k : Key) (m : Int) (W : World) (h : VL W a n c l) (hn : n ≤ 100000) (hm : m ≤ 1000000000) : Calls Try.prog 20 #[.slice a n c, .agg (keyC k).toArray, .int .i64 m] W (Gives (.bool (allB l k m)) W) := by
  have H := Box.mk h
  have hn' := Box.mk hn
  clear h hn
  go_enter Try.func20, Try.ntmps20
  go_wp2_with fail
  have hB0 : Below W.heap.size W (W.alloc (.cells (keyC k).toArray 23)) := (Below.refl _ _).alloc (Nat.le_refl _) _
  have hr0 : rowOf (W.alloc (.cells (keyC k).toArray 23)) W.heap.size 0 32 = some (keyC k) := rowOf_alloc_new _ _ _ _ _ _ rfl (keyC_length k)
  obtain ⟨w1, hw1⟩ : ∃ w1, w1 = W.alloc (.cells (keyC k).toArray 23) := ⟨_, rfl⟩
  have hsz1 : w1.heap.size = W.heap.size + 1 := by rw [hw1]; simp
  rw [← hw1] at hB0 hr0 ⊢
  replace hw1 := Box.mk hw1
  replace hB0 := Box.mk hB0
  by_cases hneg : m ≤ 0
  · have hA : allB l k m = true := by unfold allB; rw [show m.toNat = 0 from by omega]; rfl
    replace hA := Box.mk hA
    go_step3
    go_wp2_with fail
    go_step3
    go_wp2_with fail
    refine wp_loop_rounds 1 ?_
    rw [rounds_succ]
    go_wp2
    go_ret
    exact gives_bool hA.out.symm hB0.out
  · obtain ⟨q, rfl⟩ : ∃ q : Nat, m = q := ⟨m.toNat, by omega⟩
    go_step3
    go_wp2_with fail
    go_step3
    go_wp2_with fail
    go_loopw [7, 8] (fun g i wr => Below w1.heap.size w1 wr ∧ ∃ j : Nat, j ≤ q ∧ i = .int .i64 j ∧ g = .bool true ∧ ∀ t, t < j → lookL l k t = true) (fun _ i _ => q - (intOf i).toNat)
    case atStart => exact ⟨Below.refl _ _, 0, Nat.zero_le _, rfl, rfl, fun t ht => by omega⟩
    case round =>
      obtain ⟨hbr, j, hj, rfl, rfl, hall⟩ := hrel
      have hsz := hbr.size
      by_cases hlt : j < q
      · have hlt' : (j : Int) < (q : Int) := by omega
        have R2 : rowOf wr W.heap.size 0 32 = some (keyC k) := by rw [rowOf_congr (hbr.block _ (by omega))]; exact hr0
        have s2 : W.heap.size < wr.heap.size := by omega
        have hV : Box (VL wr a n c l) := Box.mk (SL.below (SL.below H.out hB0.out) hbr)
        replace hall := Box.mk hall
        go_wp2_with fail
        refine (look_any a n c l k j _ hV.out hn'.out).mono ?_
        rintro e w2 ⟨rfl, hb2⟩
        cases hlk : lookL l k j
        · have hA := allB_false hlt hlk
          replace hA := Box.mk hA
          replace hlk := Box.mk hlk
          go_wp2
          go_ret
          exact gives_bool hA.out.symm (hB0.out.trans ((since_next hbr hb2).mono (by omega)))
        · replace hlk := Box.mk hlk
          go_wp2
          go_roundw
          case rel =>
            refine ⟨since_next hbr hb2, j + 1, by omega, by go_num, rfl, fun t ht => ?_⟩
            rcases Nat.lt_succ_iff_lt_or_eq.1 ht with h | h
            · exact hall.out t h
            · subst h; exact hlk.out
          case measure => simp [intOf]; omega
      · obtain rfl : j = q := by omega
        have hA := allB_true hall
        replace hA := Box.mk hA
        replace hall := Box.mk hall
        go_wp2
        go_ret
        exact gives_bool hA.out.symm (hB0.out.trans (hbr.mono (by omega)))

end Go.Proofs.Ytpgaibihfplhcaa
