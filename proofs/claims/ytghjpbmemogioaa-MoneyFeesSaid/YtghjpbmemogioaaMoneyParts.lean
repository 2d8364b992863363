/- Layer 2: a sum of two lists; what is added is taken off again. -/
import Derived.Test.YtghjpbmemogioaaMoneySum
namespace Go.Proofs.Ytghjpbmemogioaa
open Go.RowKit
set_option linter.unusedVariables false
set_option linter.unusedSimpArgs false
attribute [local go_sem ↓] append_i64

set_option maxHeartbeats 2000000 in
theorem moneyParts_walk (a1 a2 : Option Addr) (n1 c1 n2 c2 : Nat) (l m : List Int) (W : World) (h1 : IL W a1 n1 c1 l) (h2 : IL W a2 n2 c2 m) : Calls Try.prog 4 #[.slice a1 n1 c1, .slice a2 n2 c2] W (LawEnd W) := by
  have hl1 := h1.1.1
  have hl2 := h2.1.1
  replace h1 := Box.mk h1
  replace h2 := Box.mk h2
  replace hl1 := Box.mk hl1
  replace hl2 := Box.mk hl2
  by_cases hn1 : 1024 < n1
  · go_enter Try.func4, Try.ntmps4
    go_wp2_with fail
    refine (shown02 _).mono ?_
    rintro e w1 ⟨rfl, hb1⟩
    go_wp2
    go_ret
    exact gives_bool rfl hb1
  · by_cases hn2 : 1024 < n2
    · go_enter Try.func4, Try.ntmps4
      go_wp2_with fail
      refine (shown02 _).mono ?_
      rintro e w1 ⟨rfl, hb1⟩
      go_wp2
      go_ret
      exact gives_bool rfl hb1
    · go_enter Try.func4, Try.ntmps4
      go_wp2_with fail
      refine (shown02 _).mono ?_
      rintro e w1 ⟨rfl, hb1⟩
      go_wp2_with fail
      have hO := OwnI.empty w1 w1.heap.size w1.heap.size rfl (Nat.le_refl _)
      have hB0 : Below W.heap.size W (w1.alloc (.cells #[] 2)) := hb1.alloc hb1.size _
      have hB1 : Below w1.heap.size w1 (w1.alloc (.cells #[] 2)) := (Below.refl _ _).alloc (Nat.le_refl _) _
      obtain ⟨u3, n3, c3, w3, hap3, hown3, hb3, hs3, hn3, hc3, hu3⟩ := app_i64s (ty := 22) hO hB1.size (Nat.le_refl _) (fun h => nomatch h) rfl a1 n1 c1 l (h1.out.below hB0) (by have := hl1.out; simp; omega)
      rw [hap3]
      have hB3 : Below w1.heap.size w1 w3 := hB1.trans hb3
      have hBW3 : Below W.heap.size W w3 := hb1.trans (hB3.mono hb1.size)
      rw [List.nil_append] at hown3
      replace hap3 := Box.mk hap3
      replace hn3 := Box.mk hn3
      go_wp2_with fail
      obtain ⟨u4, n4, c4, w4, hap4, hown4, hb4, hs4, hn4, hc4, hu4⟩ := app_i64s (ty := 22) hown3 hB3.size hc3 hu3 (by rw [hn3.out]; simp) a2 n2 c2 m (h2.out.below hBW3) (by have := hl1.out; have := hl2.out; omega)
      rw [hap4]
      replace hap4 := Box.mk hap4
      have hBW4 : Below W.heap.size W w4 := hBW3.trans (hb4.mono hb1.size)
      have hI : ∀ x ∈ l ++ m, I64 x := fun x hx => (List.mem_append.1 hx).elim (h1.out.2 x) (h2.out.2 x)
      have hall : IL w4 u4 n4 c4 (l ++ m) := by
        rcases hown4.2 with ⟨h, hz⟩ | ⟨g, cap, cur, hv, _⟩
        · injection h with e1 e2 e3
          rw [rowsI_length] at hz
          have : l ++ m = [] := List.length_eq_zero_iff.1 hz
          rw [this, e1, e2, e3]
          exact IL.none _
        · injection hv with e1 e2 e3
          subst e1
          exact OwnI.il hown4 hI
      replace hall := Box.mk hall
      clear hown3 hown4 hO hI hB0 hB1
      replace hn4 := Box.mk hn4
      go_wp2_with fail
      refine (sum_any a1 n1 c1 l _ (h1.out.below hBW4)).mono ?_
      rintro e w5 ⟨rfl, hb5⟩
      have hBW5 := since_next hBW4 hb5
      have happ := Box.mk (addedO_append l m)
      cases e1 : addedO l with
      | none =>
        replace e1 := Box.mk e1
        simp only [toldV, valN_none, errN_none]
        go_wp2_with fail
        refine (sum_any a2 n2 c2 m _ (h2.out.below hBW5)).mono ?_
        rintro e w6 ⟨rfl, hb6⟩
        simp only [toldV]
        go_wp2_with fail
        refine (sum_any u4 n4 c4 (l ++ m) _ ((hall.out.below hb5).below hb6)).mono ?_
        rw [happ.out, e1.out]
        rintro e w7 ⟨rfl, hb7⟩
        simp only [Option.bind_none, toldV, valN_none, errN_none]
        go_wp2
        go_ret
        exact gives_bool rfl (since_next (since_next hBW5 hb6) hb7)
      | some x =>
        have hx := addedO_range e1
        have hxI : Box (I64 x) := Box.mk (by unfold I64; omega)
        replace hx := Box.mk hx
        replace e1 := Box.mk e1
        simp only [toldV, valN_some, errN_some]
        go_wp2_with fail
        refine (sum_any a2 n2 c2 m _ (h2.out.below hBW5)).mono ?_
        rintro e w6 ⟨rfl, hb6⟩
        cases e2 : addedO m with
        | none =>
          replace e2 := Box.mk e2
          simp only [toldV, valN_none, errN_none]
          go_wp2_with fail
          refine (sum_any u4 n4 c4 (l ++ m) _ ((hall.out.below hb5).below hb6)).mono ?_
          rw [happ.out, e1.out, e2.out]
          rintro e w7 ⟨rfl, hb7⟩
          simp only [Option.bind_some, Option.bind_none, toldV, valN_none, errN_none]
          go_wp2
          go_ret
          exact gives_bool rfl (since_next (since_next hBW5 hb6) hb7)
        | some y =>
          have hy := addedO_range e2
          have hyI : Box (I64 y) := Box.mk (by unfold I64; omega)
          replace hy := Box.mk hy
          replace e2 := Box.mk e2
          simp only [toldV, valN_some, errN_some]
          go_wp2_with fail
          refine (sum_any u4 n4 c4 (l ++ m) _ ((hall.out.below hb5).below hb6)).mono ?_
          rw [happ.out, e1.out, e2.out]
          rintro e w7 ⟨rfl, hb7⟩
          simp only [Option.bind_some, toldV]
          go_wp2_with fail
          refine (add_any x y _ hxI.out hyI.out).mono ?_
          rintro e w8 ⟨rfl, hb8⟩
          simp only [toldV]
          go_wp2
          go_ret
          exact gives_bool rfl (since_next (since_next (since_next hBW5 hb6) hb7) hb8)

theorem drop_rev {l : List Int} {j : Nat} {x : Int} (hx : l[j]? = some x) : (l.drop j).reverse = (l.drop (j + 1)).reverse ++ [x] := by
  have h := (List.getElem?_eq_some_iff.1 hx)
  rw [List.drop_eq_getElem_cons h.1, h.2, List.reverse_cons]

set_option maxHeartbeats 2000000 in
theorem moneyBack_walk (a b : Int) (a1 : Option Addr) (n c : Nat) (l : List Int) (W : World) (ha : I64 a) (hb : I64 b) (h1 : IL W a1 n c l) : Calls Try.prog 3 #[.int .i64 a, .int .i64 b, .slice a1 n c] W (LawEnd W) := by
  have hl1 := h1.1.1
  replace h1 := Box.mk h1
  replace hl1 := Box.mk hl1
  replace ha := Box.mk ha
  replace hb := Box.mk hb
  by_cases hn1 : 1024 < n
  · go_enter Try.func3, Try.ntmps3
    go_wp2_with fail
    refine (shown02 _).mono ?_
    rintro e w1 ⟨rfl, hb1⟩
    go_wp2
    go_ret
    exact gives_bool rfl hb1
  · go_enter Try.func3, Try.ntmps3
    go_wp2_with fail
    refine (shown02 _).mono ?_
    rintro e w1 ⟨rfl, hb1⟩
    go_wp2_with fail
    refine (add_any a b _ ha.out hb.out).mono ?_
    rintro e w2 ⟨rfl, hb2⟩
    simp only [toldV]
    go_wp2_with fail
    refine (add_any b a _ hb.out ha.out).mono ?_
    rintro e w3 ⟨rfl, hb3⟩
    rw [addV_comm]
    cases e1 : addV a b with
    | none =>
      replace e1 := Box.mk e1
      simp only [toldV, valN_none, errN_none]
      have hBW := since_next (since_next hb1 hb2) hb3
      go_wp2_with fail
      have hO := OwnI.empty w3 w3.heap.size w3.heap.size rfl (Nat.le_refl _)
      have hB0 : Below w3.heap.size w3 (w3.alloc (.cells #[] 2)) := (Below.refl _ _).alloc (Nat.le_refl _) _
      go_loopw [13, 14] (fun v i wr => Below w3.heap.size w3 wr ∧ ∃ j : Nat, j ≤ n ∧ i = .int .i64 ((j : Int) - 1) ∧ ∃ g c', v = .slice (some ⟨g, 0, none⟩) (n - j) c' ∧ OwnI wr w3.heap.size (.slice (some ⟨g, 0, none⟩) (n - j) c') (l.drop j).reverse) (fun _ i _ => (intOf i + 1).toNat)
      case atStart => exact ⟨hB0, n, Nat.le_refl _, rfl, _, _, by rw [Nat.sub_self], by rw [Nat.sub_self, List.drop_eq_nil_of_le (by rw [hl1.out]; exact Nat.le_refl _)]; exact hO⟩
      case round =>
        obtain ⟨hbr, j, hj, rfl, g, c', rfl, hown⟩ := hrel
        have hsz := hbr.size
        by_cases hlt : 1 ≤ j
        · obtain ⟨i, rfl⟩ : ∃ i, j = i + 1 := ⟨j - 1, by omega⟩
          have hil : i < l.length := by rw [← hl1.out]; omega
          have hx : l[i]? = some l[i] := List.getElem?_eq_getElem hil
          obtain ⟨b', o, rfl, hb', hc⟩ := h1.out.at hx
          have hc' : wr.cell? ⟨b', o + i, none⟩ = some (.int .i64 l[i]) := by rw [hbr.cell (p := ⟨b', o + i, none⟩) (Nat.lt_of_lt_of_le hb' hBW.size), hBW.cell (p := ⟨b', o + i, none⟩) hb']; exact hc
          have hbsz : b' < wr.heap.size := Nat.lt_of_lt_of_le hb' (Nat.le_trans hBW.size hsz)
          have hdr := drop_rev hx
          have hlen : ((l.drop (i + 1)).reverse).length = n - (i + 1) := by rw [List.length_reverse, List.length_drop, ← hl1.out]
          generalize l[i] = x at *
          replace hx := Box.mk hx
          replace hc := Box.mk hc
          replace hdr := Box.mk hdr
          replace hlen := Box.mk hlen
          have hi1 : (i : Int) < (n : Int) := by omega
          go_wp2_with fail
          obtain ⟨g', c'', w', hap, hown', hb'', hs''⟩ := app_i64 (ty := 22) hown hsz x (by rw [hlen.out]; omega)
          rw [hlen.out, show n - (i + 1) + 1 = n - i from by omega] at hap hown'
          rw [← hdr.out] at hown'
          rw [hap]
          replace hap := Box.mk hap
          go_wp2
          go_roundw
          case rel => exact ⟨hbr.trans hb'', i, by omega, by go_num, g', c'', rfl, hown'⟩
          case measure => simp [intOf]
        · obtain rfl : j = 0 := by omega
          rw [Nat.sub_zero, List.drop_zero] at hown
          have hI : ∀ x ∈ l.reverse, I64 x := fun x hx => h1.out.2 x (by simpa using hx)
          have hrev := OwnI.il hown hI
          have hBr := hBW.trans (hbr.mono hBW.size)
          go_wp2_with fail
          refine (sum_any a1 n c l _ (h1.out.below hBr)).mono ?_
          rintro e wx ⟨rfl, hbx⟩
          simp only [toldV]
          go_wp2_with fail
          refine (sum_any _ n c' l.reverse _ (hrev.below hbx)).mono ?_
          rw [addedO_reverse]
          rintro e wy ⟨rfl, hby⟩
          simp only [toldV]
          have hv : 0 ≤ valN (addedO l) ∧ valN (addedO l) ≤ 2100000000000000 := by
            cases e1 : addedO l with
            | none => rw [valN_none]; omega
            | some z => rw [valN_some]; exact addedO_range e1
          obtain ⟨hv0, hv1⟩ := hv
          generalize valN (addedO l) = vz at *
          generalize errN (addedO l) = ez at *
          go_wp2
          go_ret
          exact gives_bool rfl (since_next (since_next hBr hbx) hby)
    | some z =>
      have hz : sureO a = some a ∧ sureO b = some b ∧ z = a + b ∧ 0 ≤ z ∧ z ≤ 2100000000000000 := by
        have e2 := e1
        rw [addV_eq] at e2
        cases h1 : sureO a with
        | none => rw [h1] at e2; cases e2
        | some x =>
          obtain ⟨rfl, hx⟩ := sureO_some h1
          cases h2 : sureO b with
          | none => rw [h1, h2] at e2; cases e2
          | some y =>
            obtain ⟨rfl, hy⟩ := sureO_some h2
            rw [h1, h2] at e2
            have := sureO_some (show sureO (x + y) = some z from e2)
            exact ⟨rfl, rfl, this.1, by rw [this.1]; exact this.2⟩
      obtain ⟨hsa, hsb, hzz, hz0, hz1⟩ := hz
      have hL : lessO z b = some a := by
        unfold lessO
        have : sureO z = some z := by unfold sureO; rw [if_pos ⟨hz0, hz1⟩]
        rw [this, hsb]
        show sureO (z - b) = some a
        rw [hzz, Int.add_sub_cancel, hsa]
      replace e1 := Box.mk e1
      replace hsa := Box.mk hsa
      replace hsb := Box.mk hsb
      replace hzz := Box.mk hzz
      replace hL := Box.mk hL
      simp only [toldV, valN_some, errN_some]
      go_wp2_with fail
      refine (sub_any z b _ (by unfold I64; omega) hb.out).mono ?_
      rw [hL.out]
      rintro e w4 ⟨rfl, hb4⟩
      simp only [toldV, valN_some, errN_some]
      have hBW := since_next (since_next (since_next hb1 hb2) hb3) hb4
      go_wp2_with fail
      have hO := OwnI.empty w4 w4.heap.size w4.heap.size rfl (Nat.le_refl _)
      have hB0 : Below w4.heap.size w4 (w4.alloc (.cells #[] 2)) := (Below.refl _ _).alloc (Nat.le_refl _) _
      go_loopw [13, 14] (fun v i wr => Below w4.heap.size w4 wr ∧ ∃ j : Nat, j ≤ n ∧ i = .int .i64 ((j : Int) - 1) ∧ ∃ g c', v = .slice (some ⟨g, 0, none⟩) (n - j) c' ∧ OwnI wr w4.heap.size (.slice (some ⟨g, 0, none⟩) (n - j) c') (l.drop j).reverse) (fun _ i _ => (intOf i + 1).toNat)
      case atStart => exact ⟨hB0, n, Nat.le_refl _, rfl, _, _, by rw [Nat.sub_self], by rw [Nat.sub_self, List.drop_eq_nil_of_le (by rw [hl1.out]; exact Nat.le_refl _)]; exact hO⟩
      case round =>
        obtain ⟨hbr, j, hj, rfl, g, c', rfl, hown⟩ := hrel
        have hsz := hbr.size
        by_cases hlt : 1 ≤ j
        · obtain ⟨i, rfl⟩ : ∃ i, j = i + 1 := ⟨j - 1, by omega⟩
          have hil : i < l.length := by rw [← hl1.out]; omega
          have hx : l[i]? = some l[i] := List.getElem?_eq_getElem hil
          obtain ⟨b', o, rfl, hb', hc⟩ := h1.out.at hx
          have hc' : wr.cell? ⟨b', o + i, none⟩ = some (.int .i64 l[i]) := by rw [hbr.cell (p := ⟨b', o + i, none⟩) (Nat.lt_of_lt_of_le hb' hBW.size), hBW.cell (p := ⟨b', o + i, none⟩) hb']; exact hc
          have hbsz : b' < wr.heap.size := Nat.lt_of_lt_of_le hb' (Nat.le_trans hBW.size hsz)
          have hdr := drop_rev hx
          have hlen : ((l.drop (i + 1)).reverse).length = n - (i + 1) := by rw [List.length_reverse, List.length_drop, ← hl1.out]
          generalize l[i] = x at *
          replace hx := Box.mk hx
          replace hc := Box.mk hc
          replace hdr := Box.mk hdr
          replace hlen := Box.mk hlen
          have hi1 : (i : Int) < (n : Int) := by omega
          go_wp2_with fail
          obtain ⟨g', c'', w', hap, hown', hb'', hs''⟩ := app_i64 (ty := 22) hown hsz x (by rw [hlen.out]; omega)
          rw [hlen.out, show n - (i + 1) + 1 = n - i from by omega] at hap hown'
          rw [← hdr.out] at hown'
          rw [hap]
          replace hap := Box.mk hap
          go_wp2
          go_roundw
          case rel => exact ⟨hbr.trans hb'', i, by omega, by go_num, g', c'', rfl, hown'⟩
          case measure => simp [intOf]
        · obtain rfl : j = 0 := by omega
          rw [Nat.sub_zero, List.drop_zero] at hown
          have hI : ∀ x ∈ l.reverse, I64 x := fun x hx => h1.out.2 x (by simpa using hx)
          have hrev := OwnI.il hown hI
          have hBr := hBW.trans (hbr.mono hBW.size)
          go_wp2_with fail
          refine (sum_any a1 n c l _ (h1.out.below hBr)).mono ?_
          rintro e wx ⟨rfl, hbx⟩
          simp only [toldV]
          go_wp2_with fail
          refine (sum_any _ n c' l.reverse _ (hrev.below hbx)).mono ?_
          rw [addedO_reverse]
          rintro e wy ⟨rfl, hby⟩
          simp only [toldV]
          have hv : 0 ≤ valN (addedO l) ∧ valN (addedO l) ≤ 2100000000000000 := by
            cases e1 : addedO l with
            | none => rw [valN_none]; omega
            | some z => rw [valN_some]; exact addedO_range e1
          obtain ⟨hv0, hv1⟩ := hv
          generalize valN (addedO l) = vz at *
          generalize errN (addedO l) = ez at *
          go_wp2
          go_ret
          exact gives_bool rfl (since_next (since_next hBr hbx) hby)

end Go.Proofs.Ytghjpbmemogioaa
