/- The contracts of package money: added, told. -/
import Derived.Test.YtghjpbmemogioaaMoney
namespace Go.Proofs.Ytghjpbmemogioaa
open Go.RowKit
set_option linter.unusedVariables false
set_option linter.unusedSimpArgs false

/-- The cell of a number. -/
def iC (x : Int) : List Value := [.int .i64 x]
theorem iC_length (x : Int) : (iC x).length = 1 := rfl
def I64 (x : Int) : Prop := -9223372036854775808 ≤ x ∧ x ≤ 9223372036854775807
/-- A slice of numbers in memory. -/
def IL (w : World) (a : Option Addr) (n c : Nat) (l : List Int) : Prop := SL iC 1 w a n c l ∧ ∀ x ∈ l, I64 x
theorem IL.below {w w' : World} {a : Option Addr} {n c : Nat} {l : List Int} (h : IL w a n c l) (hb : Below w.heap.size w w') : IL w' a n c l := ⟨h.1.below hb, h.2⟩
theorem IL.at {w : World} {a : Option Addr} {n c : Nat} {l : List Int} (h : IL w a n c l) {i : Nat} {x : Int} (hx : l[i]? = some x) : ∃ b o, a = some ⟨b, o, none⟩ ∧ b < w.heap.size ∧ w.cell? ⟨b, o + i, none⟩ = some (.int .i64 x) := by
  obtain ⟨b, o, ha, hb, hr⟩ := SL.elem iC_length h.1 hx
  refine ⟨b, o, ha, hb, ?_⟩
  rw [Nat.mul_one] at hr
  have := (rowOf_some.1 hr).2 0 (.int .i64 x) rfl
  rwa [Nat.add_zero] at this

theorem foldl_none : ∀ (l : List Int), l.foldlM (fun n a => addO n a) (0 : Int) = addedO l := fun _ => rfl
theorem addedO_take_succ {l : List Int} {j : Nat} {v x : Int} (h : addedO (l.take j) = some v) (hx : l[j]? = some x) : addedO (l.take (j + 1)) = addO v x := by
  rw [List.take_add_one, hx]
  unfold addedO at h ⊢
  rw [List.foldlM_append, h]
  show (addO v x).bind _ = _
  cases addO v x <;> rfl
theorem addedO_take_none {l : List Int} {j : Nat} (h : addedO (l.take j) = none) : addedO l = none := by
  unfold addedO at h ⊢
  rw [← List.take_append_drop j l, List.foldlM_append, h]
  rfl
theorem addO_range {n a m : Int} (h : addO n a = some m) : 0 ≤ m ∧ m ≤ 2100000000000000 := by
  unfold addO at h
  cases h1 : sureO a with
  | none => rw [h1] at h; cases h
  | some x =>
    rw [h1] at h
    have := sureO_some (show sureO (n + x) = some m from h)
    omega

set_option maxHeartbeats 1000000 in
theorem added_any (a : Option Addr) (n c : Nat) (l : List Int) (w : World) (h : IL w a n c l) : Calls Try.prog 35 #[.slice a n c] w (Tells (addedO l) w) := by
  have hn : n = l.length := h.1.1
  have hm : n ≤ maxLen := Nat.le_trans h.1.2.1 h.1.2.2.1
  have hm' : (n : Int) ≤ 9223372036854775807 := by unfold maxLen at hm; omega
  replace hn := Box.mk hn
  have H := Box.mk h
  clear h hm
  go_enter Try.func35, Try.ntmps35
  go_wp2_with fail
  go_loopw [3, 5, 8] (fun v _ i wr => Below w.heap.size w wr ∧ ∃ j : Nat, j ≤ n ∧ i = .int .i64 j ∧ ∃ m : Int, addedO (l.take j) = some m ∧ 0 ≤ m ∧ m ≤ 2100000000000000 ∧ v = .int .i64 m) (fun _ _ i _ => n - (intOf i).toNat)
  case atStart => exact ⟨Below.refl _ _, 0, Nat.zero_le _, rfl, 0, rfl, by omega, by omega, rfl⟩
  case round =>
    obtain ⟨hbr, j, hj, rfl, m, hm, hm0, hm1, rfl⟩ := hrel
    by_cases hlt : j < n
    · have hlt' : (j : Int) < (n : Int) := by omega
      have hjl : j < l.length := by rw [← hn.out]; exact hlt
      have hx : l[j]? = some l[j] := List.getElem?_eq_getElem hjl
      obtain ⟨b, o, rfl, hb, hc⟩ := H.out.at hx
      have hI := H.out.2 l[j] (List.getElem_mem hjl)
      have hs := addedO_take_succ hm hx
      have hc' : wr.cell? ⟨b, o + j, none⟩ = some (.int .i64 l[j]) := by rw [hbr.cell (p := ⟨b, o + j, none⟩) hb]; exact hc
      have hbsz : b < wr.heap.size := Nat.lt_of_lt_of_le hb hbr.size
      generalize l[j] = x at *
      replace hm := Box.mk hm
      replace hx := Box.mk hx
      replace hI := Box.mk hI
      replace hc := Box.mk hc
      cases h1 : sureO x with
      | none =>
        have hA : addedO l = none := addedO_take_none (j := j + 1) (by rw [hs]; unfold addO; rw [h1]; rfl)
        replace hA := Box.mk hA
        replace h1 := Box.mk h1
        replace hs := Box.mk hs
        go_wp2_with fail
        refine (sure_any x _ hI.out).mono ?_
        rw [h1.out]
        rintro e w1 ⟨rfl, hb1⟩
        go_wp2
        exact ⟨rfl, tells_none hA.out (since_next hbr hb1)⟩
      | some y =>
        obtain ⟨rfl, hy⟩ := sureO_some h1
        have hs2 : addO m y = sureO (m + y) := by unfold addO; rw [h1]; rfl
        rw [hs2] at hs
        have hw : IntKind.i64.wrap (m + y) = m + y := by rw [IntWalk.i64_in _ (by omega)]
        replace h1 := Box.mk h1
        replace hs := Box.mk hs
        have hR : Box (I64 (m + y)) := Box.mk ⟨by omega, by omega⟩
        replace hy := Box.mk hy
        clear hs2
        go_wp2_with fail
        refine (sure_any y _ hI.out).mono ?_
        rw [h1.out]
        rintro e w1 ⟨rfl, hb1⟩
        go_wp2_with fail
        refine (sure_any (m + y) _ hR.out).mono ?_
        cases h3 : sureO (m + y) with
        | none =>
          have hA : addedO l = none := addedO_take_none (j := j + 1) (by rw [hs.out, h3])
          replace h3 := Box.mk h3
          replace hA := Box.mk hA
          rintro e w2 ⟨rfl, hb2⟩
          go_wp2
          exact ⟨rfl, tells_none hA.out (since_next (since_next hbr hb1) hb2)⟩
        | some z =>
          have hz := sureO_some h3
          have hA : addedO (l.take (j + 1)) = some z := by rw [hs.out, h3]
          replace h3 := Box.mk h3
          rintro e w2 ⟨rfl, hb2⟩
          go_wp2
          go_roundw
          case rel => exact ⟨since_next (since_next hbr hb1) hb2, j + 1, by omega, by go_num, z, hA, by omega, by omega, by rw [hz.1]⟩
          case measure => simp [intOf]; omega
    · obtain rfl : j = n := by omega
      have hA : addedO l = some m := by rw [hn.out, List.take_length] at hm; exact hm
      replace hA := Box.mk hA
      replace hm := Box.mk hm
      go_wp2
      go_ret
      exact tells_some hA.out hbr rfl

end Go.Proofs.Ytghjpbmemogioaa
