/- The contracts of package anchor. -/
import Derived.Test.YtpgaibihfplhcaaKeys
import Derived.WalkSpells
import Derived.WalkLawsBesides
import Derived.Lib.Hide
namespace Go.Proofs.Ytpgaibihfplhcaa
open Go.RowKit
set_option linter.unusedVariables false
set_option linter.unusedSimpArgs false
attribute [local go_sem ↓] load_key store_key alloc_key build0_key one_key make_key copy_key append_key eq_key
attribute [local go_sem] rowOf_drew rowOf_alloc_old rowOf_alloc_new canPut_drew canPut_alloc_old canPut_alloc_new setCells_alloc_new

theorem map_add0 (a : Option Addr) : a = a.map (fun x => x.add 0) := by cases a <;> rfl

def tailA (a : Option Addr) (l : List Key) (m : Nat) : Option Addr := a.map fun x => if l.length = l.length - m then x else x.add ((l.length - m) * 32)

set_option maxHeartbeats 400000 in
theorem tail_any (a : Option Addr) (cap m : Nat) (l : List Key) (w : World) (h : KL w a cap l) (hm : 1 ≤ m) (hm' : m ≤ 1000) (hl : l.length ≤ 1000000) :
    Calls Try.prog 34 #[.slice a l.length cap, .int .i64 m] w fun e w' => e = .returned (.slice (tailA a l m) (l.length - (l.length - m)) (l.length - (l.length - m))) ∧ w = w' := by
  have hcap : l.length ≤ cap := h.2.1
  clear h
  obtain ⟨n, hn⟩ : ∃ n, n = l.length := ⟨_, rfl⟩
  have HN := Lib.hid hn
  rw [← hn] at hcap hl ⊢
  clear hn
  have Hpost : ∀ (a' : Option Addr) (k : Nat), (n - (n - m) = k) → (a' = if n = n - m then a else a.map fun x => x.add ((n - m) * 32)) → Ending.returned (.slice a' k k) = .returned (.slice (tailA a l m) (n - (n - m)) (n - (n - m))) := by
    intro a' k hk ha
    subst hk ha
    rw [tailA, ← HN.out]
    split
    · simp
    · rfl
  rcases Nat.lt_trichotomy n m with hlm | hlm | hlm
  · by_cases h0 : n = 0
    · subst h0
      go_enter Try.func34, Try.ntmps34
      go_wp2
      all_goals
        go_ret
        exact ⟨Hpost _ _ (by omega) (by first | (rw [if_pos (by omega)]) | simp), rfl⟩
    · go_enter Try.func34, Try.ntmps34
      go_wp2
      all_goals
        go_ret
        exact ⟨Hpost _ _ (by omega) (by rw [if_neg (by omega), show n - m = 0 from by omega]; simp; exact map_add0 a), rfl⟩
  · obtain rfl : n = m := hlm
    go_enter Try.func34, Try.ntmps34
    go_wp2
    all_goals
      go_ret
      exact ⟨Hpost _ _ (by omega) (by rw [if_neg (by omega), show n - n = 0 from by omega]; simp; exact map_add0 a), rfl⟩
  · go_enter Try.func34, Try.ntmps34
    go_wp2
    all_goals
      go_ret
      exact ⟨Hpost _ _ (by omega) (by rw [if_neg (by omega)]), rfl⟩

/-- The first place of a key, from place i on; -1: none. -/
def firstIdx (k : Key) : List Key → Nat → Int
  | [], _ => -1
  | x :: l, i => if x == k then i else firstIdx k l (i + 1)
def anyK (l : List Key) (k : Key) : Bool := l.any (· == k)
theorem firstIdx_ge' (k : Key) : ∀ (l : List Key) (i : Nat), 0 ≤ firstIdx k l i ↔ anyK l k = true
  | [], i => by simp [firstIdx, anyK]
  | x :: l, i => by
    have ih := firstIdx_ge' k l (i + 1)
    unfold anyK at ih ⊢
    rw [List.any_cons, firstIdx]
    cases h : (x == k)
    · simpa using ih
    · simp
theorem firstIdx_ge (k : Key) (l : List Key) (i : Nat) : decide (0 ≤ firstIdx k l i) = anyK l k := by
  rw [Bool.eq_iff_iff, decide_eq_true_iff]; exact firstIdx_ge' k l i

theorem has1_any (x k : Key) (b : Nat) (w : World) (hb : b < w.heap.size) (hk : rowOf w b 0 32 = some (keyC k)) :
    Calls Try.prog 36 #[.agg (keyC x).toArray, .pointer (some ⟨b, 0, none⟩)] w (Gives (.bool (x == k)) w) := by
  go_enter Try.func36, Try.ntmps36
  go_wp2
  go_ret
  exact gives_bool rfl ((Below.refl _ _).alloc (by simp) _)

set_option maxHeartbeats 400000 in
theorem indexFunc_any (a : Option Addr) (cap : Nat) (l : List Key) (k : Key) (b : Nat) (w : World) (h : KL w a cap l) (hl : l.length ≤ 1000000) (hb : b < w.heap.size) (hk : rowOf w b 0 32 = some (keyC k)) :
    Calls Try.prog 38 #[.slice a l.length cap, .func (.func 36) #[] #[.pointer (some ⟨b, 0, none⟩)]] w (Gives (.int .i64 (firstIdx k l 0)) w) := by
  have H := Lib.hid h
  clear h
  go_enter Try.func38, Try.ntmps38
  go_wp2
  go_loopw [5, 8] (fun _ i wr => ∃ j : Nat, j ≤ l.length ∧ i = .int .i64 j ∧ Below w.heap.size w wr ∧ firstIdx k l 0 = firstIdx k (l.drop j) j) (fun _ i _ => l.length - (intOf i).toNat)
  case atStart => exact ⟨0, Nat.zero_le _, rfl, Below.refl _ _, rfl⟩
  case round =>
    obtain ⟨j, hj, rfl, hbw, hfi⟩ := hrel
    have HF := Lib.hid hfi
    clear hfi
    by_cases hlt : j < l.length
    · have hx : l[j]? = some l[j] := List.getElem?_eq_getElem hlt
      obtain ⟨b', o', ha, hb', hr⟩ := KL.at (h := H.out) hx
      subst ha
      have hr2 : rowOf wr b' (o' + j * 32) 32 = some (keyC l[j]) := by rw [rowOf_congr (hbw.block b' hb')]; exact hr
      have hk2 : rowOf wr b 0 32 = some (keyC k) := by rw [rowOf_congr (hbw.block b hb)]; exact hk
      have hb2 : b < wr.heap.size := Nat.lt_of_lt_of_le hb hbw.size
      have hd : l.drop j = l[j] :: l.drop (j + 1) := List.drop_eq_getElem_cons hlt
      generalize l[j] = x at *
      have HD := Lib.hid hd
      have HX := Lib.hid hx
      clear hd hx hr
      go_wp2_with fail
      refine (has1_any x k b _ hb2 hk2).mono ?_
      rintro e w2 ⟨rfl, hb3⟩
      cases hxk : (x == k)
      · go_wp2_with fail
        go_roundw
        case rel => exact ⟨j + 1, by omega, by go_num, Below.of hb3 hbw.size hbw, by rw [HF.out, HD.out, firstIdx, hxk]; rfl⟩
        case measure => simp [intOf]; omega
      · go_wp2_with fail
        go_ret
        exact gives_int (by rw [HF.out, HD.out, firstIdx, hxk]; rfl) (Below.of hb3 hbw.size hbw)
    · obtain rfl : j = l.length := by omega
      go_wp2
      go_ret
      exact gives_int (by rw [HF.out, List.drop_length]; rfl) hbw

theorem containsFunc_any (a : Option Addr) (cap : Nat) (l : List Key) (k : Key) (b : Nat) (w : World) (h : KL w a cap l) (hl : l.length ≤ 1000000) (hb : b < w.heap.size) (hk : rowOf w b 0 32 = some (keyC k)) :
    Calls Try.prog 35 #[.slice a l.length cap, .func (.func 36) #[] #[.pointer (some ⟨b, 0, none⟩)]] w (Gives (.bool (anyK l k)) w) := by
  go_enter Try.func35, Try.ntmps35
  go_wp2_with fail
  refine (indexFunc_any a cap l k b _ h hl hb hk).mono ?_
  rintro e w2 ⟨rfl, hb3⟩
  go_wp2
  go_ret
  exact gives_bool (firstIdx_ge k l 0) hb3


/-- The last so many of a list. -/
def lastN {α : Type} (l : List α) (m : Nat) : List α := l.drop (l.length - m)
theorem lastN_length {α : Type} (l : List α) (m : Nat) : (lastN l m).length = l.length - (l.length - m) := by unfold lastN; simp
theorem KL.tail {w : World} {a : Option Addr} {cap : Nat} {l : List Key} (h : KL w a cap l) (m : Nat) : KL w (tailA a l m) (l.length - (l.length - m)) (lastN l m) := by
  have := SL.drop keyC_length h (l.length - m) (by omega) (l.length - (l.length - m)) (Nat.le_refl _) (by have := h.2.1; have := h.2.2.1; omega) (fun hn => by have h1 := h.2.1; have h2 := h.2.2.2.1 hn; omega)
  unfold KL
  rw [lastN_length]
  exact this

/-- Does it lie among the last four? -/
def hasB (l : List Key) (k : Key) : Bool := anyK (lastN l 4) k

set_option maxHeartbeats 400000 in
theorem has_any (a : Option Addr) (cap : Nat) (l : List Key) (k : Key) (w : World) (h : KL w a cap l) (hl : l.length ≤ 1000000) :
    Calls Try.prog 16 #[.agg #[.slice a l.length cap], .agg (keyC k).toArray] w (Gives (.bool (hasB l k)) w) := by
  have ht := (h.below (w' := (w.alloc (.cells #[.slice a l.length cap] 27)).alloc (.cells (keyC k).toArray 23)) (((Below.refl _ _).alloc (by simp) _).alloc (by simp <;> omega) _))
  have HT := Lib.hid ht
  clear ht h
  have hle := lastN_length l 4
  have HL := Lib.hid hle
  clear hle
  go_enter Try.func16, Try.ntmps16
  go_wp2_with fail
  refine (tail_any a cap 4 l _ HT.out (by omega) (by omega) hl).mono ?_
  rintro e w2 ⟨rfl, rfl⟩
  go_wp2_with fail
  rw [← HL.out]
  refine (containsFunc_any (tailA a l 4) _ (lastN l 4) k _ _ (by have := KL.tail HT.out 4; rw [← HL.out] at this; exact this) (by rw [HL.out]; omega) (by simp) (by simp [rowOf_alloc_new, keyC_length])).mono ?_
  rintro e w2 ⟨rfl, hb2⟩
  go_wp2
  go_ret
  exact gives_bool rfl (Below.of hb2 (by simp <;> omega) (((Below.refl _ _).alloc (by simp) _).alloc (by simp <;> omega) _))

/-- A ring was returned that holds these keys; below the heap's size at the begin nothing has turned. -/
def RingPost (l : List Key) (w : World) (e : Ending) (w' : World) : Prop := ∃ a cap, e = .returned (.agg #[.slice a l.length cap]) ∧ KL w' a cap l ∧ Below w.heap.size w w' ∧ Fresh w.heap.size a

theorem new_any (k : Key) (w : World) : Calls Try.prog 14 #[.agg (keyC k).toArray] w (RingPost [k] w) := by
  go_enter Try.func14, Try.ntmps14
  go_wp2
  refine bodyPost_ret (v := .agg #[.slice (some ⟨w.heap.size + 1 + 1, 0, none⟩) 1 1]) (by simp [results, Try.results14, go_sem]) rfl ?_
  refine ⟨_, _, rfl, ?_, (((Below.refl _ _).alloc (by simp) _).alloc (by simp <;> omega) _).alloc (by simp <;> omega) _, fresh_some (by omega)⟩
  rw [← rows_one keyC k]
  exact SL.new keyC_length _ [k] _ _ (by simp) (by unfold maxLen; simp)

/-- What 'Put' makes. -/
def putL (l : List Key) (k : Key) : List Key := lastN (l ++ [k]) 8

theorem put_eq (l : List Key) (k : Key) : (l ++ List.drop l.length (List.replicate (l.length + 1) zeroKey)).set l.length k = l ++ [k] := by
  rw [List.drop_replicate, Nat.add_sub_cancel_left, List.replicate_one, List.set_append_right _ _ (Nat.le_refl _), Nat.sub_self]; rfl

set_option maxHeartbeats 400000 in
theorem put_any (a : Option Addr) (cap : Nat) (l : List Key) (k : Key) (w : World) (h : KL w a cap l) (hl : l.length ≤ 100000) :
    Calls Try.prog 15 #[.agg #[.slice a l.length cap], .agg (keyC k).toArray] w (RingPost (putL l k) w) := by
  by_cases hne : l = []
  · subst hne
    go_enter Try.func15, Try.ntmps15
    go_wp2_with fail
    rw [show (1 : Nat) = [k].length from rfl, ← rows_one keyC k]
    refine (tail_any _ _ 8 [k] _ (SL.new keyC_length _ [k] _ _ (by simp) (by unfold maxLen; simp)) (by omega) (by omega) (by simp)).mono ?_
    rintro e w2 ⟨rfl, rfl⟩
    go_wp2_with fail
    refine bodyPost_ret (v := .agg #[.slice (tailA (some ⟨w.heap.size + 1 + 1 + 1, 0, none⟩) [k] 8) 1 1]) (by simp [results, Try.results15, go_sem]) rfl ?_
    refine ⟨_, _, rfl, ?_, ((((Below.refl _ _).alloc (by simp) _).alloc (by simp <;> omega) _).alloc (by simp <;> omega) _).alloc (by simp <;> omega) _, Fresh.map (fresh_some (by omega)) _ _⟩
    exact KL.tail (SL.new keyC_length _ [k] _ _ (by simp) (by unfold maxLen; simp)) 8
  · obtain ⟨b, o, rfl, hb, hr⟩ := h.2.2.2.2 hne
    have HL := Lib.hid h
    clear h
    have h0 : l.length ≠ 0 := fun h => hne (List.length_eq_zero_iff.1 h)
    obtain ⟨q0, q1, q2, q3, q4, q5, q6, q7, q8⟩ := old_facts hb
    have g1 : l.length * 32 ≤ (l.length + 1) * 32 := by omega
    have g2 : l.length * 32 + 32 ≤ (l.length + 1) * 32 := by omega
    go_enter Try.func15, Try.ntmps15
    go_wp2_with fail
    rw [show l.length + 1 = (l ++ [k]).length from by simp]
    refine (tail_any _ _ 8 (l ++ [k]) _ (SL.new keyC_length _ (l ++ [k]) _ _ (by simp) (by unfold maxLen; simp; omega)) (by omega) (by omega) (by simp; omega)).mono ?_
    rintro e w2 ⟨rfl, rfl⟩
    go_wp2_with fail
    have hN : l.length + 1 - (l.length - 7) = (putL l k).length := by unfold putL; rw [lastN_length, List.length_append, List.length_singleton]; omega
    rw [hN]
    refine bodyPost_ret (v := .agg #[.slice (tailA (some ⟨w.heap.size + 1 + 1 + 1, 0, none⟩) (l ++ [k]) 8) (putL l k).length (putL l k).length]) (by simp [results, Try.results15, go_sem]) rfl ?_
    refine ⟨_, _, rfl, ?_, ((((Below.refl _ _).alloc (by simp) _).alloc (by simp <;> omega) _).alloc (by simp <;> omega) _).alloc (by simp <;> omega) _, Fresh.map (fresh_some (by omega)) _ _⟩
    have := KL.tail (SL.new keyC_length (((w.alloc (.cells #[.slice (some ⟨b, o, none⟩) l.length cap] 27)).alloc (.cells (keyC k).toArray 23)).alloc (.cells #[.slice (tailA (some ⟨w.heap.size + 1 + 1 + 1, 0, none⟩) (l ++ [k]) 8) (putL l k).length (putL l k).length] 27)) (l ++ [k]) 23 (w.heap.size + 1 + 1 + 1) (by simp) (by unfold maxLen; simp; omega)) 8
    rw [show (l ++ [k]).length - ((l ++ [k]).length - 8) = (putL l k).length from by unfold putL; rw [lastN_length]] at this
    exact this

def ClonePost (l : List Key) (w : World) (e : Ending) (w' : World) : Prop := ∃ g cap', e = .returned (.slice (some ⟨g, 0, none⟩) l.length cap') ∧ KL w' (some ⟨g, 0, none⟩) cap' l ∧ Below w.heap.size w w' ∧ w.heap.size ≤ g

set_option maxHeartbeats 400000 in
theorem clone_any (a : Option Addr) (cap : Nat) (l : List Key) (w : World) (h : KL w a cap l) (hl : l.length ≤ 100000) (hne : l ≠ []) :
    Calls Try.prog 37 #[.slice a l.length cap] w (ClonePost l w) := by
  obtain ⟨b, o, rfl, hb, hr⟩ := h.2.2.2.2 hne
  have h0 : l.length ≠ 0 := fun h => hne (List.length_eq_zero_iff.1 h)
  have H := Lib.hid h
  clear h
  go_enter Try.func37, Try.ntmps37
  go_wp2_with fail
  have hH : SL keyC 32 (w.alloc (.cells #[] 23)) (some ⟨b, o, none⟩) l.length cap l := SL.alloc H.out _
  obtain ⟨g, cap', w1, hap, hown, hgr, _⟩ := app_keys (ty := 24) (Own.empty keyC 32 23 w w.heap.size w.heap.size rfl (Nat.le_refl _)) (by simp) (some ⟨b, o, none⟩) cap l hH hne (by simp; omega)
  have HO := Lib.hid hown
  clear hown
  rw [hap]
  go_wp2_with fail
  go_ret
  have hO := HO.out
  rw [List.nil_append, List.length_nil, Nat.zero_add] at hO
  refine ⟨g, cap', rfl, hO.sl'.2, Below.trans ((Below.refl _ _).alloc (by simp) _) (grown_below hgr (by simp [Value.ownBlock]) (by simp)), ?_⟩
  have hO' := HO.out
  rcases hO'.form with ⟨h1, _⟩ | ⟨g', _, h1, h2, _⟩
  · cases h1
  · injection h1 with h1; injection h1 with h1; injection h1 with h1; omega

def BackPost (l : List Key) (w : World) (e : Ending) (w' : World) : Prop :=
  if l.length < 2 then e = .returned (.tuple #[.agg #[.slice none 0 0], .int .i64 166]) ∧ Below w.heap.size w w'
  else ∃ a cap, e = .returned (.tuple #[.agg #[.slice a l.dropLast.length cap], .int .i64 0]) ∧ KL w' a cap l.dropLast ∧ Below w.heap.size w w' ∧ Fresh w.heap.size a

set_option maxHeartbeats 400000 in
theorem back_any (a : Option Addr) (cap : Nat) (l : List Key) (w : World) (h : KL w a cap l) (hl : l.length ≤ 100000) :
    Calls Try.prog 28 #[.agg #[.slice a l.length cap]] w (BackPost l w) := by
  by_cases h2 : l.length < 2
  · clear h
    go_enter Try.func28, Try.ntmps28
    go_wp2_with fail
    refine bodyPost_ret (v := .tuple #[.agg #[.slice none 0 0], .int .i64 166]) (by simp [results, Try.results28, go_sem]) rfl ?_
    unfold BackPost
    rw [if_pos h2]
    exact ⟨rfl, ((Below.refl _ _).alloc (by simp) _).alloc (by simp <;> omega) _⟩
  · have hcap := h.2.1
    have hd : l.dropLast = l.take (l.length - 1) := List.dropLast_eq_take
    have hk := SL.take keyC_length h (l.length - 1) (by omega)
    rw [← hd] at hk
    have hdl : l.dropLast.length = l.length - 1 := List.length_dropLast
    rw [← hdl] at hk
    have hne : l.dropLast ≠ [] := fun e => by rw [e] at hdl; simp at hdl; omega
    have HK := Lib.hid hk
    have HD := Lib.hid hdl
    clear h hd hk hdl
    have hll : l.length ≤ cap := hcap
    go_enter Try.func28, Try.ntmps28
    go_wp2_with fail
    rw [← HD.out]
    refine (clone_any a cap l.dropLast _ (SL.alloc (SL.alloc HK.out _) _) (by rw [HD.out]; omega) hne).mono ?_
    rintro e w1 ⟨g, cap', rfl, hkl, hb1, hg⟩
    have HKL := Lib.hid hkl
    clear hkl
    obtain ⟨hc, hf, hr, hh⟩ := bcell hb1
    have hs1 := hb1.size
    simp at hs1 hg
    have hlt : w.heap.size + 1 < w1.heap.size := by omega
    go_wp2_with fail
    refine bodyPost_ret (v := .tuple #[.agg #[.slice (some ⟨g, 0, none⟩) l.dropLast.length cap'], .int .i64 0]) (by simp [results, Try.results28, go_sem, hc]) rfl ?_
    unfold BackPost
    rw [if_neg h2]
    refine ⟨_, _, rfl, SL.setCell HKL.out _ _ _ ((fresh_some (o := 0) (Nat.le_refl g)).ne (by omega)), ?_, fresh_some (by omega)⟩
    exact Below.setCell (Below.of hb1 (by simp <;> omega) (((Below.refl _ _).alloc (by simp) _).alloc (by simp <;> omega) _)) (by simp) _

end Go.Proofs.Ytpgaibihfplhcaa
