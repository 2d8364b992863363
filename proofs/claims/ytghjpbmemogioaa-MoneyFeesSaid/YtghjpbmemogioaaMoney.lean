/- The contracts of package money: sure, less, added, told. -/
import Derived.Test.YtghjpbmemogioaaRows
import Derived.Test.YtghjpbmemogioaaSince
import Derived.Test.YtghjpbmemogioaaHeld
import Derived.Test.YtghjpbmemogioaaOwnV
import Derived.Defers
import Derived.Recover
import Derived.WalkLawsBesides
import Derived.WalkSpells
import Derived.Lib.Hide
namespace Go.Proofs.Ytghjpbmemogioaa
open Go.RowKit
set_option linter.unusedVariables false
set_option linter.unusedSimpArgs false

/-- A fact out of the walk's sight. -/
structure Box (p : Prop) : Prop where
  out : p

def sureO (a : Int) : Option Int := if 0 ≤ a ∧ a ≤ 2100000000000000 then some a else none
def lessO (a b : Int) : Option Int := (sureO a).bind fun a => (sureO b).bind fun b => sureO (a - b)
def addO (n a : Int) : Option Int := (sureO a).bind fun a => sureO (n + a)
def addedO (l : List Int) : Option Int := l.foldlM addO 0
theorem sureO_some {a n : Int} (h : sureO a = some n) : n = a ∧ 0 ≤ a ∧ a ≤ 2100000000000000 := by
  unfold sureO at h
  split at h
  · injection h with h; exact ⟨h.symm, ‹_›⟩
  · cases h
theorem sureO_none {a : Int} (h : sureO a = none) : ¬ (0 ≤ a ∧ a ≤ 2100000000000000) := by
  unfold sureO at h
  split at h
  · cases h
  · assumption
/-- What a call does that may go wrong. -/
def Tells (o : Option Int) (w : World) (e : Ending) (w' : World) : Prop :=
  (match o with
    | some n => e = .returned (.int .i64 n)
    | none => e = .panicked [{ v := .iface 69 (.agg #[]), recovered := false }]) ∧ Below w.heap.size w w'

theorem tells_none {o : Option Int} {w w' : World} (h : o = none) (hb : Below w.heap.size w w') : Tells o w (.panicked [{ v := .iface 69 (.agg #[]), recovered := false }]) w' := by subst h; exact ⟨rfl, hb⟩
theorem tells_some {o : Option Int} {n m : Int} {w w' : World} (h : o = some n) (hb : Below w.heap.size w w') (hm : m = n) : Tells o w (.returned (.int .i64 m)) w' := by subst h hm; exact ⟨rfl, hb⟩

theorem may_any (a : Int) (w : World) (ha : -9223372036854775808 ≤ a ∧ a ≤ 9223372036854775807) : Calls Try.prog 22 #[.int .i64 a] w fun e w' => e = .returned (.bool (decide (0 ≤ a ∧ a ≤ 2100000000000000))) ∧ w' = w := by
  go_enter Try.func22, Try.ntmps22
  go_wp2
  go_ret
  have e : decide (IntKind.u64.wrap a ≤ 2100000000000000) = decide (0 ≤ a ∧ a ≤ 2100000000000000) := by
    rw [decide_eq_decide]
    have hw : IntKind.u64.wrap a = a % 18446744073709551616 := by simp [IntKind.wrap, IntKind.bits, IntKind.signed]
    rw [hw]
    omega
  exact ⟨congrArg (fun b => Ending.returned (.bool b)) e, rfl⟩

theorem sure_any (a : Int) (w : World) (ha : -9223372036854775808 ≤ a ∧ a ≤ 9223372036854775807) : Calls Try.prog 47 #[.int .i64 a] w (Tells (sureO a) w) := by
  go_enter Try.func47, Try.ntmps47
  go_wp2_with fail
  refine (may_any a w ha).mono ?_
  rintro e w1 ⟨rfl, rfl⟩
  by_cases h : 0 ≤ a ∧ a ≤ 2100000000000000
  · have hs : sureO a = some a := by unfold sureO; rw [if_pos h]
    rw [decide_eq_true h]
    go_wp2
    go_ret
    exact tells_some hs (Below.refl _ _) rfl
  · have hs : sureO a = none := by unfold sureO; rw [if_neg h]
    rw [decide_eq_false h]
    replace hs := Box.mk hs
    go_wp2
    exact ⟨rfl, tells_none hs.out (Below.refl _ _)⟩

theorem sureO_range {a n : Int} (h : sureO a = some n) : -9223372036854775808 ≤ n ∧ n ≤ 9223372036854775807 := by have := sureO_some h; omega

set_option maxHeartbeats 1000000 in
theorem less_any (a b : Int) (w : World) (ha : -9223372036854775808 ≤ a ∧ a ≤ 9223372036854775807) (hb : -9223372036854775808 ≤ b ∧ b ≤ 9223372036854775807) : Calls Try.prog 37 #[.int .i64 a, .int .i64 b] w (Tells (lessO a b) w) := by
  have ha' := Box.mk ha
  have hb' := Box.mk hb
  clear ha hb
  cases h1 : sureO a with
  | none =>
    have hl : lessO a b = none := by unfold lessO; rw [h1]; rfl
    replace hl := Box.mk hl
    replace h1 := Box.mk h1
    go_enter Try.func37, Try.ntmps37
    go_wp2_with fail
    refine (sure_any a _ ha'.out).mono ?_
    rw [h1.out]
    rintro e w1 ⟨rfl, hb1⟩
    go_wp2
    exact ⟨rfl, tells_none hl.out (hb1)⟩
  | some x =>
    obtain ⟨rfl, hx⟩ := sureO_some h1
    cases h2 : sureO b with
    | none =>
      have hl : lessO x b = none := by unfold lessO; rw [h1, h2]; rfl
      replace hl := Box.mk hl
      replace h1 := Box.mk h1
      replace h2 := Box.mk h2
      go_enter Try.func37, Try.ntmps37
      go_wp2_with fail
      refine (sure_any x _ ha'.out).mono ?_
      rw [h1.out]
      rintro e w1 ⟨rfl, hb1⟩
      go_wp2_with fail
      refine (sure_any b _ hb'.out).mono ?_
      rw [h2.out]
      rintro e w2 ⟨rfl, hb2⟩
      go_wp2
      exact ⟨rfl, tells_none hl.out (since_next hb1 hb2)⟩
    | some y =>
      obtain ⟨rfl, hy⟩ := sureO_some h2
      have hl : lessO x y = sureO (x - y) := by unfold lessO; rw [h1, h2]; rfl
      replace hl := Box.mk hl
      replace h1 := Box.mk h1
      replace h2 := Box.mk h2
      have hw : IntKind.i64.wrap (x - y) = x - y := by rw [IntWalk.i64_in _ (by omega)]
      replace hx := Box.mk hx
      replace hy := Box.mk hy
      go_enter Try.func37, Try.ntmps37
      go_wp2_with fail
      refine (sure_any x _ ha'.out).mono ?_
      rw [h1.out]
      rintro e w1 ⟨rfl, hb1⟩
      go_wp2_with fail
      refine (sure_any y _ hb'.out).mono ?_
      rw [h2.out]
      rintro e w2 ⟨rfl, hb2⟩
      go_wp2_with fail
      refine (sure_any (x - y) _ (by have := hx.out; have := hy.out; omega)).mono ?_
      cases h3 : sureO (x - y) with
      | none =>
        replace h3 := Box.mk h3
        rintro e w3 ⟨rfl, hb3⟩
        go_wp2
        exact ⟨rfl, tells_none (by rw [hl.out, h3.out]) (since_next (since_next hb1 hb2) hb3)⟩
      | some z =>
        replace h3 := Box.mk h3
        rintro e w3 ⟨rfl, hb3⟩
        go_wp2
        go_ret
        exact tells_some (by rw [hl.out, h3.out]) (since_next (since_next hb1 hb2) hb3) rfl

end Go.Proofs.Ytghjpbmemogioaa
