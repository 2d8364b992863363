/- The reference of layer 18: young, Has, Old, Put, Same; the law's theirs. -/
import Derived.Test.YtghjpbmemogioaaRecent4
import Derived.Test.YtghjpbmemogioaaItemR
import Derived.Test.YtghjpbmemogioaaLawEnd
namespace Go.Proofs.Ytghjpbmemogioaa
set_option maxRecDepth 100000
open Go.RowKit
set_option linter.unusedVariables false
set_option linter.unusedSimpArgs false
attribute [local irreducible] Int.lt Int.le
attribute [local go_sem ↓] load_key store_key alloc_key build0_key eq_key load_it store_it alloc_it one_it make_it append_it build_it eq_it exec_clear load_rit store_rit alloc_rit one_rit make_rit append_rit build_rit eq_rit
attribute [local go_sem] rowOf_drew rowOf_alloc_old rowOf_alloc_new canPut_drew canPut_alloc_old canPut_alloc_new setCells_alloc_new

/-- An item's number is one of Go's. -/
def okI (x : ItemV) : Prop := 0 ≤ x.at_ ∧ x.at_ < 18446744073709551616
theorem young_sum {now : Int} {x : ItemV} (hx : okI x) (hn : 0 ≤ now ∧ now < 18446744073709551616) : youngB now x = (decide (18446744073709551555 < x.at_) || decide (now < x.at_ + 60)) := by
  obtain ⟨h1, h2⟩ := hx
  by_cases h : now < x.at_
  · rw [youngB_lt h]
    have : now < x.at_ + 60 := by omega
    simp [this]
  · rw [youngB_ge h]
    have hw : IntKind.u64.wrap (now - x.at_) = now - x.at_ := by
      rw [IntKind.wrap_u64]
      omega
    rw [hw]
    rw [Bool.eq_iff_iff, Bool.or_eq_true, decide_eq_true_eq, decide_eq_true_eq, decide_eq_true_eq]
    omega

set_option maxHeartbeats 1000000 in
theorem ryoung_any (x : ItemV) (now : Int) (W : World) (hx : okI x) (hn : 0 ≤ now ∧ now < 18446744073709551616) : Calls Try.prog 44 #[.agg (itC x).toArray, .int .u64 now] W (Gives (.bool (youngB now x)) W) := by
  have hB1 : Below W.heap.size W (W.alloc (.cells (itC x).toArray 62)) := (Below.refl _ _).alloc (Nat.le_refl _) _
  have hr1 : rowOf (W.alloc (.cells (itC x).toArray 62)) W.heap.size 0 33 = some (itC x) := rowOf_alloc_new _ _ _ _ _ _ rfl (itC_length x)
  obtain ⟨-, hat⟩ := it_at hr1
  rw [Nat.zero_add] at hat
  have hy := young_sum hx hn
  replace hr1 := Box.mk hr1
  obtain ⟨h1, h2⟩ := hx
  have hs1 : (W.alloc (.cells (itC x).toArray 62)).heap.size = W.heap.size + 1 := by simp
  by_cases h : 18446744073709551555 < x.at_
  · rw [decide_eq_true h, Bool.true_or] at hy
    replace hy := Box.mk hy
    go_enter Try.func44, Try.ntmps44
    go_wp2
    go_ret
    exact gives_bool hy.out.symm hB1
  · rw [decide_eq_false h, Bool.false_or] at hy
    replace hy := Box.mk hy
    go_enter Try.func44, Try.ntmps44
    go_wp2
    go_ret
    exact gives_bool hy.out.symm hB1

/-- A slice of items, in blocks of the call's own. -/
def LPost (l : List ItemV) (w : World) (e : Ending) (w' : World) : Prop := ∃ a n c, e = .returned (.slice a n c) ∧ IL w' a n c l ∧ Fresh w.heap.size a ∧ Below w.heap.size w w'
theorem filter_take_succ {p : ItemV → Bool} {l : List ItemV} {j : Nat} {v : ItemV} (h : l[j]? = some v) : (l.take (j + 1)).filter p = (l.take j).filter p ++ (if p v then [v] else []) := by
  rw [List.take_add_one, h, List.filter_append]
  cases hp : p v <;> simp [hp]
theorem filter_take_le (p : ItemV → Bool) (l : List ItemV) (j : Nat) : ((l.take j).filter p).length ≤ l.length := by
  refine Nat.le_trans (List.length_filter_le _ _) ?_
  rw [List.length_take]
  omega

set_option maxHeartbeats 1000000 in
theorem rold_any (a : Option Addr) (n c : Nat) (l : List ItemV) (now : Int) (W : World) (h : IL W a n c l) (hn : n ≤ 100000) (hok : ∀ x ∈ l, okI x) (hnow : 0 ≤ now ∧ now < 18446744073709551616) :
    Calls Try.prog 32 #[.slice a n c, .int .u64 now] W (LPost (l.filter (youngB now)) W) := by
  have hl := Box.mk h.1
  have H := Box.mk h
  have hcap := h.2.1
  replace hok := Box.mk hok
  replace hnow := Box.mk hnow
  clear h
  go_enter Try.func32, Try.ntmps32
  go_wp2_with fail
  have hO := Own.empty itC 33 62 W W.heap.size W.heap.size rfl (Nat.le_refl _)
  have hB1 : Below W.heap.size W (W.alloc (.cells #[] 62)) := (Below.refl _ _).alloc (Nat.le_refl _) _
  generalize W.alloc (.cells #[] 62) = w2 at *
  go_loopw [5, 6] (fun v i wr => Below W.heap.size W wr ∧ ∃ j : Nat, j ≤ n ∧ i = .int .i64 j ∧ ∃ u m c', v = .slice u m c' ∧ RIOwn wr W.heap.size (.slice u m c') ((l.take j).filter (youngB now))) (fun _ i _ => n - (intOf i).toNat)
  case atStart => exact ⟨hB1, 0, Nat.zero_le _, rfl, _, _, _, rfl, hO⟩
  case round =>
    obtain ⟨hbr, j, hj, rfl, u, m, c', rfl, hown⟩ := hrel
    have hsz := hbr.size
    by_cases hlt : j < n
    · have hlt' : (j : Int) < (n : Int) := by omega
      have hjl : j < l.length := by rw [← hl.out]; exact hlt
      have hx : l[j]? = some l[j] := List.getElem?_eq_getElem hjl
      have hyv := hok.out l[j] (List.getElem_mem hjl)
      obtain ⟨b, o, rfl, hb, hr⟩ := SL.elem itC_length H.out hx
      have R1 : rowOf wr b (o + j * 33) 33 = some (itC l[j]) := by rw [rowOf_congr (hbr.block b hb)]; exact hr
      have s1 : b < wr.heap.size := by omega
      have hft := filter_take_succ (p := youngB now) hx
      have hfl := filter_take_le (youngB now) l j
      generalize l[j] = v at *
      replace hx := Box.mk hx
      replace hr := Box.mk hr
      replace hfl := Box.mk hfl
      replace hown := Box.mk hown
      have hcall := ryoung_any v now wr hyv hnow.out
      replace hyv := Box.mk hyv
      replace hft := Box.mk hft
      replace hcall := Box.mk hcall
      go_wp2_with fail
      refine hcall.out.mono ?_
      rintro e w3 ⟨rfl, hb3⟩
      have hb03 := since_next hbr hb3
      have R3 : rowOf w3 b (o + j * 33) 33 = some (itC v) := by rw [rowOf_congr (hb3.block b s1)]; exact R1
      have s3 : b < w3.heap.size := by have := hb3.size; omega
      have hs3 := hb03.size
      replace hown := Box.mk (hown.out.below hb3)
      clear R1
      cases hy : youngB now v
      · have hd : (l.take (j + 1)).filter (youngB now) = (l.take j).filter (youngB now) := by rw [hft.out, hy]; simp
        replace hd := Box.mk hd
        replace hy := Box.mk hy
        go_wp2
        go_roundw
        case rel => exact ⟨hb03, j + 1, by omega, by go_num, u, m, c', rfl, by rw [hd.out]; exact hown.out⟩
        case measure => simp [intOf]; omega
      · have hd : (l.take (j + 1)).filter (youngB now) = (l.take j).filter (youngB now) ++ [v] := by rw [hft.out, hy]; rfl
        obtain ⟨u5, n5, c5, w5, hap5, hown5, hb5, hs5, hn5, _⟩ := app_rit (ty := 43) (hown.out.below ((Below.refl w3.heap.size w3).alloc (Nat.le_refl _) (.cells (itC v).toArray 62))) (by rw [World.size_alloc]; omega) (some ⟨w3.heap.size, 0, none⟩) 1 1 [v] (SL.one itC_length _ _ _) (by have := hfl.out; have := hl.out; simp; omega)
        have hB5 : Below W.heap.size W w5 := (hb03.alloc (by omega) _).trans hb5
        rw [← hd] at hown5
        replace hap5 := Box.mk hap5
        replace hown5 := Box.mk hown5
        replace hd := Box.mk hd
        replace hy := Box.mk hy
        clear hn5 hs5 hb5
        go_wp2_with fail
        rw [hap5.out]
        replace hap5 := Box.mk hap5
        go_wp2
        go_roundw
        case rel => exact ⟨hB5, j + 1, by omega, by go_num, u5, n5, c5, rfl, hown5.out⟩
        case measure => simp [intOf]; omega
    · obtain rfl : j = n := by omega
      have ht : l.take j = l := by rw [hl.out, List.take_length]
      rw [ht] at hown
      have hsl := Box.mk hown.sl'.2
      have hfr := Box.mk hown.block_le
      replace hown := Box.mk hown
      replace ht := Box.mk ht
      go_wp2
      go_ret
      exact ⟨_, _, _, rfl, hsl.out, hfr.out, hbr⟩

set_option maxHeartbeats 1000000 in
theorem rtheirs_any (a : Option Addr) (n c : Nat) (l : List ItemV) (W : World) (h : IL W a n c l) (hn : n ≤ 100000) :
    Calls Try.prog 26 #[.slice a n c] W (LPost l W) := by
  have hl := Box.mk h.1
  have H := Box.mk h
  have hcap := h.2.1
  clear h
  go_enter Try.func26, Try.ntmps26
  go_wp2_with fail
  have hO := Own.empty itC 33 62 W W.heap.size W.heap.size rfl (Nat.le_refl _)
  have hB1 : Below W.heap.size W (W.alloc (.cells #[] 62)) := (Below.refl _ _).alloc (Nat.le_refl _) _
  generalize W.alloc (.cells #[] 62) = w2 at *
  go_loopw [3, 4] (fun v i wr => Below W.heap.size W wr ∧ ∃ j : Nat, j ≤ n ∧ i = .int .i64 j ∧ ∃ u c', v = .slice u j c' ∧ RIOwn wr W.heap.size (.slice u j c') (l.take j)) (fun _ i _ => n - (intOf i).toNat)
  case atStart => exact ⟨hB1, 0, Nat.zero_le _, rfl, _, _, rfl, hO⟩
  case round =>
    obtain ⟨hbr, j, hj, rfl, u, c', rfl, hown⟩ := hrel
    have hsz := hbr.size
    by_cases hlt : j < n
    · have hlt' : (j : Int) < (n : Int) := by omega
      have hjl : j < l.length := by rw [← hl.out]; exact hlt
      have hx : l[j]? = some l[j] := List.getElem?_eq_getElem hjl
      obtain ⟨b, o, rfl, hb, hr⟩ := SL.elem itC_length H.out hx
      have R1 : rowOf wr b (o + j * 33) 33 = some (itC l[j]) := by rw [rowOf_congr (hbr.block b hb)]; exact hr
      have s1 : b < wr.heap.size := by omega
      have hd : l.take (j + 1) = l.take j ++ [l[j]] := by rw [List.take_add_one, hx]; rfl
      have htl : (l.take j).length = j := by rw [List.length_take, ← hl.out]; omega
      generalize l[j] = v at *
      obtain ⟨u5, n5, c5, w5, hap5, hown5, hb5, hs5, hn5, _⟩ := app_rit (ty := 43) (hown.below ((Below.refl wr.heap.size wr).alloc (Nat.le_refl _) (.cells (itC v).toArray 62))) (by rw [World.size_alloc]; omega) (some ⟨wr.heap.size, 0, none⟩) 1 1 [v] (SL.one itC_length _ _ _) (by rw [htl]; simp; omega)
      have hn5' : n5 = j + 1 := by rw [hn5, htl]; rfl
      subst hn5'
      have hB5 : Below W.heap.size W w5 := (hbr.alloc (by omega) _).trans hb5
      rw [← hd] at hown5
      replace hap5 := Box.mk hap5
      replace hown5 := Box.mk hown5
      replace hown := Box.mk hown
      replace hx := Box.mk hx
      replace hd := Box.mk hd
      replace htl := Box.mk htl
      replace hr := Box.mk hr
      clear hn5 hs5 hb5
      go_wp2_with fail
      rw [hap5.out]
      replace hap5 := Box.mk hap5
      go_wp2
      go_roundw
      case rel => exact ⟨hB5, j + 1, by omega, by go_num, u5, c5, rfl, hown5.out⟩
      case measure => simp [intOf]; omega
    · obtain rfl : j = n := by omega
      have ht : l.take j = l := by rw [hl.out, List.take_length]
      rw [ht] at hown
      have hsl := Box.mk hown.sl'.2
      have hfr := Box.mk hown.block_le
      replace hown := Box.mk hown
      replace ht := Box.mk ht
      go_wp2
      go_ret
      exact ⟨_, _, _, rfl, hsl.out, hfr.out, hbr⟩

end Go.Proofs.Ytghjpbmemogioaa
