/- Layer 8: the last root; the law's own 'shown'; the reference's contracts. -/
import Derived.Test.YtpgaibihfplhcaaAnchor
import Derived.Test.YtpgaibihfplhcaaKeys2
import Derived.Test.YtpgaibihfplhcaaSince
namespace Go.Proofs.Ytpgaibihfplhcaa
open Go.RowKit
set_option linter.unusedVariables false
set_option linter.unusedSimpArgs false
attribute [local go_sem ↓] load_key store_key alloc_key build0_key one_key make_key copy_key append_key eq_key build1_key build2_key
attribute [local go_sem] rowOf_drew rowOf_alloc_old rowOf_alloc_new canPut_drew canPut_alloc_old canPut_alloc_new setCells_alloc_new

/-- The last root, and whether there is one. -/
def lastK (l : List Key) : Key := l.getLastD zeroKey

theorem lastK_get {l : List Key} (hne : l ≠ []) : l[l.length - 1]? = some (lastK l) := by
  rw [lastK, List.getLastD_eq_getLast?, ← List.getLast?_eq_getElem?]
  cases h : l.getLast? with
  | none => exact absurd (List.getLast?_eq_none_iff.1 h) hne
  | some x => rfl

def LastPost (l : List Key) (w : World) : Ending → World → Prop := Gives (.tuple #[.agg (keyC (lastK l)).toArray, .bool (!l.isEmpty)]) w

theorem last_any (a : Option Addr) (cap : Nat) (l : List Key) (w : World) (h : KL w a cap l) (hl : l.length ≤ 100000) :
    Calls Try.prog 17 #[.agg #[.slice a l.length cap]] w (LastPost l w) := by
  by_cases hne : l = []
  · subst hne
    go_enter Try.func17, Try.ntmps17
    go_wp2_with fail
    refine bodyPost_ret (v := .tuple #[.agg (keyC zeroKey).toArray, .bool false]) (res2 Try.results17 (res_key (b := w.heap.size + 1) (o := 0) (by simp [go_sem]) (by simp [go_sem])) (by simp [oneRes, go_sem])) rfl ?_
    exact ⟨rfl, (((Below.refl _ _).alloc (by simp) _).alloc (by simp <;> omega) _)⟩
  · obtain ⟨b, o, rfl, hb, hr⟩ := KL.at h (lastK_get hne)
    have h0 : l.length ≠ 0 := fun h => hne (List.length_eq_zero_iff.1 h)
    have hcap := h.2.1
    clear h
    have he : l.isEmpty = false := by cases l with | nil => exact absurd rfl hne | cons _ _ => rfl
    have HE := Lib.hid he
    clear he
    obtain ⟨q0, q1, q2, q3, q4, q5, q6, q7, q8⟩ := old_facts hb
    go_enter Try.func17, Try.ntmps17
    go_wp2_with fail
    refine bodyPost_ret (v := .tuple #[.agg (keyC (lastK l)).toArray, .bool true]) (res2 Try.results17 (res_key (b := w.heap.size + 1) (o := 0) (by simp [go_sem]) (by simp [go_sem])) (by simp [oneRes, go_sem])) rfl ?_
    exact ⟨by rw [HE.out]; rfl, (((Below.refl _ _).alloc (by simp) _).alloc (by simp <;> omega) _)⟩


/-! ### The same, with the length apart -/
abbrev KS (w : World) (a : Option Addr) (n cap : Nat) (l : List Key) : Prop := SL keyC 32 w a n cap l
def RPost (l : List Key) (w : World) (e : Ending) (w' : World) : Prop := ∃ a n cap, e = .returned (.agg #[.slice a n cap]) ∧ KS w' a n cap l ∧ Below w.heap.size w w' ∧ Fresh w.heap.size a ∧ n = l.length ∧ n ≤ cap ∧ cap ≤ maxLen
theorem RingPost.n {l : List Key} {w : World} {e : Ending} {w' : World} (h : RingPost l w e w') : RPost l w e w' := by
  obtain ⟨a, c, h1, h2, h3, h4⟩ := h
  exact ⟨a, l.length, c, h1, h2, h3, h4, rfl, h2.2.1, h2.2.2.1⟩
theorem new_n (k : Key) (w : World) : Calls Try.prog 14 #[.agg (keyC k).toArray] w (RPost [k] w) := (new_any k w).mono fun _ _ h => h.n
theorem put_n (a : Option Addr) (n cap : Nat) (l : List Key) (k : Key) (w : World) (h : KS w a n cap l) (hl : n ≤ 100000) :
    Calls Try.prog 15 #[.agg #[.slice a n cap], .agg (keyC k).toArray] w (RPost (putL l k) w) := by
  obtain rfl := h.1
  exact (put_any a cap l k w h hl).mono fun _ _ h => h.n
theorem has_n (a : Option Addr) (n cap : Nat) (l : List Key) (k : Key) (w : World) (h : KS w a n cap l) (hl : n ≤ 1000000) :
    Calls Try.prog 16 #[.agg #[.slice a n cap], .agg (keyC k).toArray] w (Gives (.bool (hasB l k)) w) := by
  obtain rfl := h.1
  exact has_any a cap l k w h hl
theorem last_n (a : Option Addr) (n cap : Nat) (l : List Key) (w : World) (h : KS w a n cap l) (hl : n ≤ 100000) :
    Calls Try.prog 17 #[.agg #[.slice a n cap]] w (Gives (.tuple #[.agg (keyC (lastK l)).toArray, .bool (!l.isEmpty)]) w) := by
  obtain rfl := h.1
  exact last_any a cap l w h hl
/-- What 'Back' answers. -/
def backE (l : List Key) : Int := if l.length < 2 then 166 else 0
def backL (l : List Key) : List Key := if l.length < 2 then [] else l.dropLast
def BPost (l : List Key) (w : World) (e : Ending) (w' : World) : Prop := ∃ a n cap, e = .returned (.tuple #[.agg #[.slice a n cap], .int .i64 (backE l)]) ∧ KS w' a n cap (backL l) ∧ Below w.heap.size w w' ∧ Fresh w.heap.size a ∧ n = (backL l).length ∧ n ≤ cap ∧ cap ≤ maxLen
theorem back_n (a : Option Addr) (n cap : Nat) (l : List Key) (w : World) (h : KS w a n cap l) (hl : n ≤ 100000) :
    Calls Try.prog 28 #[.agg #[.slice a n cap]] w (BPost l w) := by
  obtain rfl := h.1
  refine (back_any a cap l w h hl).mono fun e w' h => ?_
  unfold BackPost at h
  unfold BPost backE backL
  split at h
  · rw [if_pos ‹_›, if_pos ‹_›]
    exact ⟨none, 0, 0, h.1, ⟨rfl, Nat.le_refl _, by decide, fun _ => rfl, fun h => absurd rfl h⟩, h.2, nofun, rfl, Nat.le_refl _, by decide⟩
  · rw [if_neg ‹_›, if_neg ‹_›]
    obtain ⟨a, c, h1, h2, h3, h4⟩ := h
    exact ⟨a, _, c, h1, h2, h3, h4, rfl, h2.2.1, h2.2.2.1⟩

theorem shown08 (w : World) : Calls Try.prog 13 #[] w (Gives (.bool true) w) := by
  go_enter Try.func13, Try.ntmps13
  go_wp2_with fail
  refine (new_n (key1 1) _).mono ?_
  rintro e w1 ⟨a1, n1, c1, rfl, hk1, hb1, hf1, hn1, -, -⟩
  replace hn1 := Lib.hid hn1
  go_wp2_with fail
  refine (put_n a1 n1 c1 [key1 1] (key1 2) _ hk1 (by rw [hn1.out]; simp)).mono ?_
  rintro e w2 ⟨a2, n2, c2, rfl, hk2, hb2, hf2, hn2, -, -⟩
  have hL : (putL [key1 1] (key1 2)).length = 2 := rfl
  have h1 : hasB (putL [key1 1] (key1 2)) (key1 1) = true := by decide
  have h2 : hasB (putL [key1 1] (key1 2)) (key1 2) = true := by decide
  rw [hL] at hn2
  clear hL
  have HN2 := Lib.hid hn2
  clear hn2
  go_wp2_with fail
  refine (has_n a2 n2 c2 _ (key1 1) _ (SL.alloc hk2 _) (by rw [HN2.out]; omega)).mono ?_
  rintro e w3 ⟨rfl, hb3⟩
  rw [h1]
  have hs3 := hb3.size
  have C3 : w3.cell? ⟨w2.heap.size, 0, none⟩ = some (.slice a2 n2 c2) := by rw [hb3.cell (by simp)]; simp [go_sem]
  simp at hs3
  have hs3' : w2.heap.size < w3.heap.size := by omega
  go_wp2_with fail
  refine (has_n a2 n2 c2 _ (key1 2) _ (SL.below (SL.alloc hk2 _) hb3) (by rw [HN2.out]; omega)).mono ?_
  rintro e w4 ⟨rfl, hb4⟩
  rw [h2]
  have C4 : w4.cell? ⟨w2.heap.size, 0, none⟩ = some (.slice a2 n2 c2) := by rw [hb4.cell hs3']; exact C3
  have hn2 := HN2.out
  go_wp2
  go_ret
  exact gives_bool rfl (Below.of hb4 (by have := hb1.size; have := hb2.size; omega) (Below.of hb3 (by have := hb1.size; have := hb2.size; simp; omega) ((Below.of hb2 hb1.size hb1).alloc (by have := hb1.size; have := hb2.size; omega) _)))

end Go.Proofs.Ytpgaibihfplhcaa
