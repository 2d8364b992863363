/- Package cost: Sum, Pick. -/
import Derived.Test.YtahkiabpjfcfdaaSums
import Derived.Test.YtahkiabpjfcfdaaMem
namespace Go.Proofs.Ytahkiabpjfcfdaa
open Go.RowKit Go.Shelf
set_option linter.unusedVariables false
set_option linter.unusedSimpArgs false
set_option maxRecDepth 100000

open Classical in
/-- What Sum gives. -/
noncomputable def sumV (l : List Int) : Int × Bool := if okW l ∧ l.length ≤ 1000 then (l.sum, true) else (0, false)
theorem sumV_ok {l : List Int} (h : okW l) (hl : l.length ≤ 1000) : sumV l = (l.sum, true) := by unfold sumV; rw [if_pos ⟨h, hl⟩]
theorem sumV_bad {l : List Int} (h : ¬ (okW l ∧ l.length ≤ 1000)) : sumV l = (0, false) := by unfold sumV; rw [if_neg h]
theorem okW_sum : ∀ {l : List Int}, okW l → (l.length : Int) ≤ l.sum ∧ l.sum ≤ l.length * 1099511627776
  | [], _ => ⟨by simp, by simp⟩
  | w :: l, h => by
    have h1 := h w (by simp)
    have h2 := okW_sum (l := l) (fun x hx => h x (by simp [hx]))
    rw [List.sum_cons, List.length_cons]
    omega
theorem sumV_range (l : List Int) : 0 ≤ (sumV l).1 ∧ (sumV l).1 ≤ 1099511627776000 := by
  by_cases h : okW l ∧ l.length ≤ 1000
  · rw [sumV_ok h.1 h.2]
    have := okW_sum h.1
    have hl := h.2
    show 0 ≤ l.sum ∧ l.sum ≤ _
    omega
  · rw [sumV_bad h]; decide
def NN (l : List (Nat × Int)) : Prop := ∀ p ∈ l, 0 ≤ p.2
def Neg (l : List (Nat × Int)) : Prop := ∃ p ∈ l, p.2 < 0
theorem NN.snoc {l : List (Nat × Int)} {x : Nat × Int} (h : NN l) (hx : ¬ x.2 < 0) : NN (l ++ [x]) := fun p hp => (List.mem_append.1 hp).elim (h p) (fun e => by simp at e; subst e; omega)
theorem Neg.snoc {l : List (Nat × Int)} {x : Nat × Int} (hx : x.2 < 0) : Neg (l ++ [x]) := ⟨x, by simp, hx⟩
def val2 (r : Int × Bool) : Value := .tuple #[.int .i64 r.1, .bool r.2]

attribute [local go_sem] Oper.semAt_some

set_option maxHeartbeats 2000000 in
theorem sum_in (n : Nat) (hn : 3 ≤ n) (a : Option Addr) (len cap : Nat) (zs : List Int) (w : World) (hI : IL w a len cap zs) :
    CallsIn Fence.wide n Try.prog 16 #[.slice a len cap] w fun e W' => e = .returned (val2 (sumV zs)) ∧ Below w.heap.size w W' := by
  have h1 : 1 ≤ n := by omega
  replace hI := Box.mk hI
  refine callsIn_of_wp_marks Try.func16 rfl trivial ?_ rfl
  simp only [Try.ntmps16, List.size_toArray, List.length_cons, List.length_nil, Nat.reduceAdd, Nat.reduceSub, Array.replicate_succ, Array.replicate_zero, List.push_toArray, List.append_toArray, List.nil_append, List.cons_append]
  gi_wp2_with (refine ⟨trivial, ?_⟩; gi_at_call 41; refine (sums_in (n - 1) _ _ _ _).mono ?_; rintro e w' ⟨rfl, rfl⟩)
  obtain ⟨s, hs⟩ : ∃ s, w.heap.size = s := ⟨_, rfl⟩
  have b0 := Boxed.new w 2 (.int .i64 0)
  have b1 := Boxed.new (w.alloc (.cells #[.int .i64 0] 2)) 4 (.bool false)
  have b2 := Boxed.new ((w.alloc (.cells #[.int .i64 0] 2)).alloc (.cells #[.bool false] 4)) 2 (.int .i64 0)
  have b3 := Boxed.new (((w.alloc (.cells #[.int .i64 0] 2)).alloc (.cells #[.bool false] 4)).alloc (.cells #[.int .i64 0] 2)) 25 (.slice a len cap)
  have hB0 : Below w.heap.size w ((((w.alloc (.cells #[.int .i64 0] 2)).alloc (.cells #[.bool false] 4)).alloc (.cells #[.int .i64 0] 2)).alloc (.cells #[.slice a len cap] 25)) := ((((Below.refl _ w).alloc (Nat.le_refl _) _).alloc (by simp) _).alloc (by simp; omega) _).alloc (by simp; omega) _
  have c0 := ((b0.alloc (.cells #[.bool false] 4)).alloc (.cells #[.int .i64 0] 2)).alloc (.cells #[.slice a len cap] 25)
  have c1 := (b1.alloc (.cells #[.int .i64 0] 2)).alloc (.cells #[.slice a len cap] 25)
  have c2 := b2.alloc (.cells #[.slice a len cap] 25)
  have hz3 : ((((w.alloc (.cells #[.int .i64 0] 2)).alloc (.cells #[.bool false] 4)).alloc (.cells #[.int .i64 0] 2)).alloc (.cells #[.slice a len cap] 25)).heap.size = w.heap.size + 4 := by simp
  simp only [World.size_alloc] at b3 c1 c2
  clear b0 b1 b2
  generalize (((w.alloc (.cells #[.int .i64 0] 2)).alloc (.cells #[.bool false] 4)).alloc (.cells #[.int .i64 0] 2)).alloc (.cells #[.slice a len cap] 25) = w4 at *
  rw [hs] at b3 c0 c1 c2 hz3
  rw [hs]
  replace hs := Box.mk hs
  refine wpIn_rangeFunc_ownG rfl h1 (gf := 72) (lb := #[.pointer (some ⟨s + 1 + 1 + 1, 0, none⟩)]) rfl trivial (enters_of Try.func72 (by kernel_rfl) rfl)
    (sums_stops (n - 1) (by omega) (s + 1 + 1 + 1) w w4 a len cap zs hI.out hB0 (by omega) b3.cell) belowK_t (belowK_b (by have := hs.out; omega)) (Below.refl _ _) (fun _ => rfl)
    (fun pre W => (NN pre ∧ (W.cell? ⟨s, 0, none⟩ = some (.int .i64 0) ∧ W.frozen? ⟨s, 0, none⟩ = false) ∧ (W.cell? ⟨s + 1, 0, none⟩ = some (.bool false) ∧ W.frozen? ⟨s + 1, 0, none⟩ = false) ∧ W.cell? ⟨s + 1 + 1, 0, none⟩ = some (.int .i64 (lastN 0 pre)) ∧ W.frozen? ⟨s + 1 + 1, 0, none⟩ = false) ∧ Below w.heap.size w W)
    (fun c pre W => (c = .ret ∧ Neg pre ∧ W.cell? ⟨s, 0, none⟩ = some (.int .i64 0) ∧ W.cell? ⟨s + 1, 0, none⟩ = some (.bool false)) ∧ Below w.heap.size w W)
    (OwnFrom.and (Own.from (fun s A B row hs hg hr => ⟨hs.1, ⟨cell_kept hs.2.1.1 hg hr, (frozen_kept hs.2.1.1 hg hr).trans hs.2.1.2⟩, ⟨cell_kept hs.2.2.1.1 hg hr, (frozen_kept hs.2.2.1.1 hg hr).trans hs.2.2.1.2⟩, cell_kept hs.2.2.2.1 hg hr, (frozen_kept hs.2.2.2.1 hg hr).trans hs.2.2.2.2⟩) _) (ownFrom_below (Nat.le_refl _) (by have := hs.out; omega)))
    (fun c => OwnFrom.and (Own.from (fun s A B row hs hg hr => ⟨hs.1, hs.2.1, cell_kept hs.2.2.1 hg hr, cell_kept hs.2.2.2 hg hr⟩) _) (ownFrom_below (Nat.le_refl _) (by have := hs.out; omega)))
    ⟨⟨fun p hp => by simp at hp, ⟨c0.cell, c0.frozen⟩, ⟨c1.cell, c1.frozen⟩, c2.cell, c2.frozen⟩, hB0⟩
    (fun x => { tmps := #[.slice a len cap, undef, .pointer (some ⟨s, 0, none⟩), .pointer (some ⟨s + 1, 0, none⟩), .pointer (some ⟨s + 1 + 1, 0, none⟩), undef, .int .i64 x.2, .slice a len cap, .func (.func 72) #[] #[.pointer (some ⟨s + 1 + 1 + 1, 0, none⟩)], .int .i64 (x.1 : Int), .int .i64 x.2, undef, undef, undef, undef], defers := [] }) ?assign ?body ?done ?stop
  case assign =>
    intro l x W K hK
    gi_wp2
    exact hK
  case body =>
    rintro l pre x W ⟨⟨hp, ⟨e0, f0⟩, ⟨e1, f1⟩, e2, f2⟩, hB⟩ _
    by_cases hx : x.2 < 0
    · gi_wp2
      exact ⟨((KeepsOthers.setCell _ _ _).trans (KeepsOthers.setCell _ _ _)).from _, ⟨rfl, Neg.snoc hx, by simp [go_sem, e0, e1], by simp [go_sem, e0, e1]⟩, (hB.setCell (p := ⟨s, 0, none⟩) (by rw [hs.out]; exact Nat.le_refl _) _).setCell (p := ⟨s + 1, 0, none⟩) (by rw [hs.out]; simp) _⟩
    · gi_wp2
      exact ⟨(KeepsOthers.setCell _ _ _).from _, (Below.refl w.heap.size W).setCell (p := ⟨s + 1 + 1, 0, none⟩) (by rw [hs.out]; simp; omega) _, ⟨hp.snoc (by omega), ⟨by simp [go_sem, e0], by simp [go_sem, f0]⟩, ⟨by simp [go_sem, e1], by simp [go_sem, f1]⟩, by rw [lastN_snoc]; exact World.cell?_setCell_same' _ _ _ (by rw [e2]; rfl), by rw [World.frozen?_setCell]; exact f2⟩, hB.setCell (p := ⟨s + 1 + 1, 0, none⟩) (by rw [hs.out]; simp; omega) _⟩
  case done =>
    rintro D ys W hD rfl ⟨⟨hne, ⟨e0, f0⟩, ⟨e1, f1⟩, e2, f2⟩, hB⟩ hK
    obtain ⟨g1, g2, g3⟩ := sumsF_ok zs 0 0 (by omega) (by omega) hne
    rw [Int.zero_add] at g3
    rw [g3] at e2
    have hval := Box.mk (sumV_ok g1 (by omega))
    replace g1 := Box.mk g1
    replace g3 := Box.mk g3
    gi_wp2
    have hK' := ((KeepsOthers.setCell W ⟨s, 0, none⟩ (.int .i64 zs.sum)).trans (KeepsOthers.setCell _ ⟨s + 1, 0, none⟩ (.bool true))).same D _ hK rfl
    refine ⟨by simp, .inl ⟨_, _, rfl, run_takeDeferred hK', ?_⟩⟩
    have q0 := cell_kept (W := (W.setCell ⟨s, 0, none⟩ (.int .i64 zs.sum)).setCell ⟨s + 1, 0, none⟩ (.bool true)) (a := ⟨s, 0, none⟩) (v := .int .i64 zs.sum) (by simp [go_sem, e0, e1]) (grownBy_putObj' _ D (.deferred none)) (fun r e => by cases e; exact ⟨_, hK', rfl⟩)
    have q1 := cell_kept (W := (W.setCell ⟨s, 0, none⟩ (.int .i64 zs.sum)).setCell ⟨s + 1, 0, none⟩ (.bool true)) (a := ⟨s + 1, 0, none⟩) (v := .bool true) (by simp [go_sem, e0, e1]) (grownBy_putObj' _ D (.deferred none)) (fun r e => by cases e; exact ⟨_, hK', rfl⟩)
    refine ⟨val2 (zs.sum, true), ?_, by rw [hval.out], ((hB.setCell (p := ⟨s, 0, none⟩) (by rw [hs.out]; exact Nat.le_refl _) _).setCell (p := ⟨s + 1, 0, none⟩) (by rw [hs.out]; simp) _).trans (belowK_b (w := w) (Nat.le_refl _) _ D _ _ (by have := hs.out; omega) hK' rfl rfl)⟩
    simp [results, Try.f16, go_sem, q0, q1, val2]
  case stop =>
    rintro D c pre W hD hpre ⟨⟨rfl, ⟨p, hp, hneg⟩, e0, e1⟩, hB⟩ hK
    have hbad : ¬ (okW zs ∧ zs.length ≤ 1000) := fun h => by
      have := sumsF_nonneg zs 0 0 (by omega) h.1 (by omega) p (hpre.subset hp)
      omega
    have hval := Box.mk (sumV_bad hbad)
    replace hbad := Box.mk hbad
    gi_wp2
    refine ⟨by simp, .inl ⟨_, _, rfl, run_takeDeferred hK, ?_⟩⟩
    have q0 := cell_kept e0 (grownBy_putObj' _ D (.deferred none)) (fun r e => by cases e; exact ⟨_, hK, rfl⟩)
    have q1 := cell_kept e1 (grownBy_putObj' _ D (.deferred none)) (fun r e => by cases e; exact ⟨_, hK, rfl⟩)
    refine ⟨val2 (0, false), ?_, by rw [hval.out], hB.trans (belowK_b (w := w) (Nat.le_refl _) W D _ _ (by have := hs.out; omega) hK rfl rfl)⟩
    simp [results, Try.f16, go_sem, q0, q1, val2]

theorem costSum_any (a : Option Addr) (len cap : Nat) (zs : List Int) (w : World) (hI : IL w a len cap zs) : Calls Try.prog 16 #[.slice a len cap] w (Gives (val2 (sumV zs)) w) :=
  (callsIn_wide.1 (sum_in 3 (Nat.le_refl _) a len cap zs w hI)).mono fun e w' h => h

/-! ### Pick -/
theorem sumV_zero {l : List Int} (h : (sumV l).1 = 0) : l = [] ∨ ¬ (okW l ∧ l.length ≤ 1000) := by
  by_cases hb : okW l ∧ l.length ≤ 1000
  · left
    rw [sumV_ok hb.1 hb.2] at h
    have := okW_sum hb.1
    replace h : l.sum = 0 := h
    exact List.length_eq_zero_iff.1 (by omega)
  · exact .inr hb
/-- What Pick gives of a draw. -/
noncomputable def pickV (l : List Int) (draw : Nat) : Int × Bool := if (sumV l).1 = 0 then (0, false) else (((pickI l ((draw : Int) % (sumV l).1) : Nat) : Int), true)
theorem sums_last {l : List Int} (h0 : (sumV l).1 ≠ 0) : okW l ∧ l.length ≤ 1000 ∧ (sumV l).1 = l.sum ∧ ∃ p ∈ sumsF 0 0 l, p.2 = l.sum := by
  by_cases hb : okW l ∧ l.length ≤ 1000
  · have e : (sumV l).1 = l.sum := by rw [sumV_ok hb.1 hb.2]
    obtain ⟨g1, g2, g3⟩ := sumsF_ok l 0 0 (by omega) (by omega) (sumsF_nonneg l 0 0 (by omega) hb.1 (by omega))
    refine ⟨hb.1, hb.2, e, ?_⟩
    rw [Int.zero_add] at g3
    rw [← g3]
    refine lastN_mem _ 0 fun he => ?_
    rw [he] at g3
    rw [e, ← g3] at h0
    exact h0 rfl
  · exact absurd (by rw [sumV_bad hb]) h0
theorem sumsF_le : ∀ (l : List Int) (i : Nat) (n : Int), okW l → i + l.length ≤ 1000 → ∀ p ∈ sumsF i n l, p.2 ≤ n + l.sum
  | [], _, _, _, _, p, hp => by simp [sumsF] at hp
  | w :: l, i, n, ho, hl, p, hp => by
    have hw := ho w (by simp)
    have hs := (okW_sum (l := l) (fun x hx => ho x (by simp [hx]))).1
    rw [sumsF, if_neg (by rw [List.length_cons] at hl; omega)] at hp
    rw [List.sum_cons]
    rcases List.mem_cons.1 hp with rfl | hp
    · show n + w ≤ _; omega
    · have := sumsF_le l (i + 1) (n + w) (fun x hx => ho x (by simp [hx])) (by rw [List.length_cons] at hl; omega) p hp
      omega
def LeD (d : Int) (l : List (Nat × Int)) : Prop := ∀ p ∈ l, p.2 % 18446744073709551616 ≤ d
theorem LeD.snoc {d : Int} {l : List (Nat × Int)} {x : Nat × Int} (h : LeD d l) (hx : ¬ d < x.2 % 18446744073709551616) : LeD d (l ++ [x]) := fun p hp => (List.mem_append.1 hp).elim (h p) (fun e => by simp at e; subst e; omega)
def Found (d : Int) (l : List (Nat × Int)) (i : Int) : Prop := ∃ ini x, l = ini ++ [x] ∧ LeD d ini ∧ d < x.2 % 18446744073709551616 ∧ i = (x.1 : Int)

set_option maxHeartbeats 2000000 in
theorem pick_in (n : Nat) (hn : 5 ≤ n) (a : Option Addr) (len cap : Nat) (zs : List Int) (draw : Nat) (hd : draw < 18446744073709551616) (w : World) (hI : IL w a len cap zs) :
    CallsIn Fence.wide n Try.prog 15 #[.slice a len cap, .int .u64 draw] w fun e W' => e = .returned (val2 (pickV zs draw)) ∧ Below w.heap.size w W' := by
  have h1 : 1 ≤ n := by omega
  have hr := sumV_range zs
  replace hI := Box.mk hI
  obtain ⟨sm, hsm⟩ : ∃ sm, sumV zs = sm := ⟨_, rfl⟩
  rw [hsm] at hr
  obtain ⟨s, hs⟩ : ∃ s, w.heap.size = s := ⟨_, rfl⟩
  replace hs := Box.mk hs
  refine callsIn_of_wp_marks Try.func15 rfl trivial ?_ rfl
  simp only [Try.ntmps15, List.size_toArray, List.length_cons, List.length_nil, Nat.reduceAdd, Nat.reduceSub, Array.replicate_succ, Array.replicate_zero, List.push_toArray, List.append_toArray, List.nil_append, List.cons_append]
  gi_wp2
  have b0 := Boxed.new w 23 (.int .u64 draw)
  have b1 := Boxed.new (w.alloc (.cells #[.int .u64 draw] 23)) 3 (.int .i64 0)
  have b2 := Boxed.new ((w.alloc (.cells #[.int .u64 draw] 23)).alloc (.cells #[.int .i64 0] 3)) 4 (.bool false)
  have hB0 : Below w.heap.size w (((w.alloc (.cells #[.int .u64 draw] 23)).alloc (.cells #[.int .i64 0] 3)).alloc (.cells #[.bool false] 4)) := (((Below.refl _ w).alloc (Nat.le_refl _) _).alloc (by simp) _).alloc (by simp; omega) _
  have c0 := (b0.alloc (.cells #[.int .i64 0] 3)).alloc (.cells #[.bool false] 4)
  have c1 := b1.alloc (.cells #[.bool false] 4)
  have hz3 : (((w.alloc (.cells #[.int .u64 draw] 23)).alloc (.cells #[.int .i64 0] 3)).alloc (.cells #[.bool false] 4)).heap.size = w.heap.size + 3 := by simp
  simp only [World.size_alloc] at b2 c1
  clear b0 b1
  generalize ((w.alloc (.cells #[.int .u64 draw] 23)).alloc (.cells #[.int .i64 0] 3)).alloc (.cells #[.bool false] 4) = w3 at *
  have hB1 := hB0
  rw [hs.out] at b2 c0 c1 hz3
  rw [hs.out]
  refine ⟨trivial, ?_⟩
  refine (sum_in (n - 1) (by omega) _ _ _ zs _ (hI.out.below hB0)).mono ?_
  rintro e w5 ⟨rfl, hb5⟩
  rw [hsm]
  unfold val2
  have hB5 : Below w.heap.size w w5 := hB0.trans (hb5.mono hB0.size)
  have lt0 : s < w3.heap.size := by have := hs.out; omega
  have lt1 : s + 1 < w3.heap.size := by have := hs.out; omega
  have lt2 : s + 1 + 1 < w3.heap.size := by have := hs.out; omega
  have k0 : w5.cell? ⟨s, 0, none⟩ = some (.int .u64 draw) := (hb5.cell (p := ⟨s, 0, none⟩) lt0).trans c0.cell
  have g0 : w5.frozen? ⟨s, 0, none⟩ = false := (hb5.frozen (p := ⟨s, 0, none⟩) lt0).trans c0.frozen
  have k1 : w5.cell? ⟨s + 1, 0, none⟩ = some (.int .i64 0) := (hb5.cell (p := ⟨s + 1, 0, none⟩) lt1).trans c1.cell
  have g1 : w5.frozen? ⟨s + 1, 0, none⟩ = false := (hb5.frozen (p := ⟨s + 1, 0, none⟩) lt1).trans c1.frozen
  have k2 : w5.cell? ⟨s + 1 + 1, 0, none⟩ = some (.bool false) := (hb5.cell (p := ⟨s + 1 + 1, 0, none⟩) lt2).trans b2.cell
  have g2 : w5.frozen? ⟨s + 1 + 1, 0, none⟩ = false := (hb5.frozen (p := ⟨s + 1 + 1, 0, none⟩) lt2).trans b2.frozen
  have hsz5 := hb5.size
  clear hB0 hB1 hb5 c0 c1 b2
  by_cases h0 : sm.1 = 0
  · have hv : pickV zs draw = (0, false) := by unfold pickV; rw [hsm, if_pos h0]
    replace hv := Box.mk hv
    gi_wp2
    have q0 : ((w5.setCell ⟨s + 1, 0, none⟩ (.int .i64 0)).setCell ⟨s + 1 + 1, 0, none⟩ (.bool false)).cell? ⟨s + 1, 0, none⟩ = some (.int .i64 0) := by simp [go_sem, k1, k2]
    have q1 : ((w5.setCell ⟨s + 1, 0, none⟩ (.int .i64 0)).setCell ⟨s + 1 + 1, 0, none⟩ (.bool false)).cell? ⟨s + 1 + 1, 0, none⟩ = some (.bool false) := by simp [go_sem, k1, k2]
    refine ⟨val2 (0, false), ?_, by rw [hv.out], (hB5.setCell (p := ⟨s + 1, 0, none⟩) (by show _ ≤ s + 1; rw [hs.out]; omega) _).setCell (p := ⟨s + 1 + 1, 0, none⟩) (by show _ ≤ s + 1 + 1; rw [hs.out]; omega) _⟩
    simp [results, Try.f15, go_sem, q0, q1, val2]
  · have hpos : 0 < sm.1 := by omega
    obtain ⟨ho, hl, he, hlast⟩ := sums_last (l := zs) (by rw [hsm]; exact h0)
    obtain ⟨d, hdd⟩ : ∃ d : Nat, (draw : Int) % sm.1 = d := ⟨((draw : Int) % sm.1).toNat, by have := Int.emod_nonneg (draw : Int) h0; omega⟩
    have hdl : (d : Int) < sm.1 := by rw [← hdd]; exact Int.emod_lt_of_pos _ hpos
    have hv : pickV zs draw = (((pickI zs d : Nat) : Int), true) := by unfold pickV; rw [hsm, if_neg h0, hdd]
    have hsm1 : sm.1 % 18446744073709551616 = sm.1 := by omega
    have hlast' : ¬ LeD d (sumsF 0 0 zs) := fun h => by
      obtain ⟨p, hp, hpe⟩ := hlast
      have := h p hp
      rw [hpe, ← he, hsm] at this
      omega
    have hfound : ∀ pre i, pre <+: sumsF 0 0 zs → Found d pre i → i = ((pickI zs d : Nat) : Int) := by
      rintro pre i hpre ⟨ini, x, rfl, h1, h2, rfl⟩
      have hin : ∀ p ∈ ini ++ [x], 0 ≤ p.2 ∧ p.2 ≤ sm.1 := fun p hp => by
        have a1 := sumsF_nonneg zs 0 0 (by omega) ho (by omega) p (hpre.subset hp)
        have a2 := sumsF_le zs 0 0 ho (by omega) p (hpre.subset hp)
        rw [← he, hsm] at a2
        omega
      have hx := hin x (by simp)
      have := pick_at d zs 0 0 ini x ho (by omega) hpre (fun p hp => by
        have := hin p (by simp [hp])
        have := h1 p hp
        omega) (by omega)
      rw [this]; simp
    replace hfound := Box.mk hfound
    replace hv := Box.mk hv
    replace hlast := Box.mk hlast
    replace hlast' := Box.mk hlast'
    replace he := Box.mk he
    replace ho := Box.mk ho
    gi_wp2
    refine ⟨trivial, ?_⟩
    refine (sums_in (n - 1) _ _ _ _).mono ?_
    rintro e w' ⟨rfl, rfl⟩
    have e0 : (w5.setCell ⟨s, 0, none⟩ (.int .u64 d)).cell? ⟨s, 0, none⟩ = some (.int .u64 d) := by simp [go_sem, k0]
    have e1 : (w5.setCell ⟨s, 0, none⟩ (.int .u64 d)).cell? ⟨s + 1, 0, none⟩ = some (.int .i64 0) := by simp [go_sem, k1]
    have i1 : (w5.setCell ⟨s, 0, none⟩ (.int .u64 d)).frozen? ⟨s + 1, 0, none⟩ = false := by simp [go_sem, g1]
    have e2 : (w5.setCell ⟨s, 0, none⟩ (.int .u64 d)).cell? ⟨s + 1 + 1, 0, none⟩ = some (.bool false) := by simp [go_sem, k2]
    have i2 : (w5.setCell ⟨s, 0, none⟩ (.int .u64 d)).frozen? ⟨s + 1 + 1, 0, none⟩ = false := by simp [go_sem, g2]
    have hB6 : Below w.heap.size w (w5.setCell ⟨s, 0, none⟩ (.int .u64 d)) := hB5.setCell (p := ⟨s, 0, none⟩) (by rw [hs.out]; exact Nat.le_refl _) _
    have hz6 : s + 1 + 1 < (w5.setCell ⟨s, 0, none⟩ (.int .u64 d)).heap.size := by simp [World.setCell]; omega
    clear k0 k1 k2 g0 g1 g2 hB5 hsz5 lt0 lt1 lt2
    generalize w5.setCell ⟨s, 0, none⟩ (.int .u64 d) = w6 at *
    have bN := Boxed.new w6 25 (.slice a len cap)
    have hB7 : Below w.heap.size w (w6.alloc (.cells #[.slice a len cap] 25)) := hB6.alloc hB6.size _
    have hk6 : Below w6.heap.size w6 (w6.alloc (.cells #[.slice a len cap] 25)) := (Below.refl _ _).alloc (Nat.le_refl _) _
    have a0 := (hk6.cell (p := ⟨s, 0, none⟩) (by show s < _; omega)).trans e0
    have a1 := (hk6.cell (p := ⟨s + 1, 0, none⟩) (by show s + 1 < _; omega)).trans e1
    have b1 := (hk6.frozen (p := ⟨s + 1, 0, none⟩) (by show s + 1 < _; omega)).trans i1
    have a2 := (hk6.cell (p := ⟨s + 1 + 1, 0, none⟩) hz6).trans e2
    have b2 := (hk6.frozen (p := ⟨s + 1 + 1, 0, none⟩) hz6).trans i2
    gi_wp2
    refine wpIn_rangeFunc_ownG rfl h1 (gf := 72) (lb := #[.pointer (some ⟨w6.heap.size, 0, none⟩)]) rfl trivial (enters_of Try.func72 (by kernel_rfl) rfl)
      (sums_stops (n - 1) (by omega) w6.heap.size w (w6.alloc (.cells #[.slice a len cap] 25)) a len cap zs hI.out hB7 (by simp) bN.cell) belowK_t (belowK_b (by have := hB7.size; omega)) (Below.refl _ _) (fun _ => rfl)
      (fun pre W => (LeD d pre ∧ W.cell? ⟨s, 0, none⟩ = some (.int .u64 d) ∧ (W.cell? ⟨s + 1, 0, none⟩ = some (.int .i64 0) ∧ W.frozen? ⟨s + 1, 0, none⟩ = false) ∧ W.cell? ⟨s + 1 + 1, 0, none⟩ = some (.bool false) ∧ W.frozen? ⟨s + 1 + 1, 0, none⟩ = false) ∧ Below w.heap.size w W)
      (fun c pre W => (c = .ret ∧ (∃ i, Found d pre i ∧ W.cell? ⟨s + 1, 0, none⟩ = some (.int .i64 i)) ∧ W.cell? ⟨s + 1 + 1, 0, none⟩ = some (.bool true)) ∧ Below w.heap.size w W)
      (OwnFrom.and (Own.from (fun s A B row hs hg hr => ⟨hs.1, cell_kept hs.2.1 hg hr, ⟨cell_kept hs.2.2.1.1 hg hr, (frozen_kept hs.2.2.1.1 hg hr).trans hs.2.2.1.2⟩, cell_kept hs.2.2.2.1 hg hr, (frozen_kept hs.2.2.2.1 hg hr).trans hs.2.2.2.2⟩) _) (ownFrom_below (Nat.le_refl _) hB7.size))
      (fun c => OwnFrom.and (Own.from (fun s A B row hs hg hr => by obtain ⟨q1, ⟨i, q2, q3⟩, q4⟩ := hs; exact ⟨q1, ⟨i, q2, cell_kept q3 hg hr⟩, cell_kept q4 hg hr⟩) _) (ownFrom_below (Nat.le_refl _) hB7.size))
      ⟨⟨fun p hp => by simp at hp, a0, ⟨a1, b1⟩, a2, b2⟩, hB7⟩
      (fun x => { tmps := #[.slice a len cap, .int .u64 draw, undef, .pointer (some ⟨s, 0, none⟩), .pointer (some ⟨s + 1, 0, none⟩), .pointer (some ⟨s + 1 + 1, 0, none⟩), .int .i64 sm.1, .bool sm.2, .int .i64 (x.1 : Int), .int .i64 x.2, .tuple #[.int .i64 sm.1, .bool sm.2], .slice a len cap, .tuple #[.int .i64 sm.1, .bool sm.2], .int .i64 sm.1, .bool sm.2, .int .i64 sm.1, .bool false, .int .u64 draw, .int .i64 sm.1, .int .u64 sm.1, .int .u64 d, .slice a len cap, .func (.func 72) #[] #[.pointer (some ⟨w6.heap.size, 0, none⟩)], .int .i64 (x.1 : Int), .int .i64 x.2, undef, undef, undef, undef, undef], defers := [] }) ?assign ?body ?done ?stop
    case assign =>
      intro l x W K hK
      gi_wp2
      exact hK
    case body =>
      rintro l pre x W ⟨⟨hp, e0, ⟨e1, f1⟩, e2, f2⟩, hB⟩ _
      have hw := IntKind.wrap_u64 x.2
      by_cases hx : (d : Int) < IntKind.u64.wrap x.2
      · have hx' : (d : Int) < x.2 % 18446744073709551616 := by rw [← hw]; exact hx
        replace hx' := Box.mk hx'
        replace hw := Box.mk hw
        gi_wp2
        exact ⟨((KeepsOthers.setCell _ _ _).trans (KeepsOthers.setCell _ _ _)).from _, ⟨rfl, ⟨_, ⟨pre, x, rfl, hp, hx'.out, rfl⟩, by simp [go_sem, e1, e2]⟩, by simp [go_sem, e1, e2]⟩, (hB.setCell (p := ⟨s + 1, 0, none⟩) (by rw [hs.out]; simp) _).setCell (p := ⟨s + 1 + 1, 0, none⟩) (by rw [hs.out]; simp; try omega) _⟩
      · have hx' : ¬ (d : Int) < x.2 % 18446744073709551616 := by rw [← hw]; exact hx
        replace hx' := Box.mk hx'
        replace hw := Box.mk hw
        gi_wp2
        exact ⟨KeepsFrom.refl _ _, Below.refl _ _, ⟨hp.snoc (by have := hx'.out; omega), e0, ⟨e1, f1⟩, e2, f2⟩, hB⟩
    case done =>
      rintro D ys W hD rfl ⟨⟨hp, _⟩, hB⟩ hK
      exact absurd hp hlast'.out
    case stop =>
      rintro D c pre W hD hpre ⟨⟨rfl, ⟨i, hf, e1⟩, e2⟩, hB⟩ hK
      obtain rfl := hfound.out pre i hpre hf
      gi_wp2
      refine ⟨by simp, .inl ⟨_, _, rfl, run_takeDeferred hK, ?_⟩⟩
      have q0 := cell_kept e1 (grownBy_putObj' _ D (.deferred none)) (fun r e => by cases e; exact ⟨_, hK, rfl⟩)
      have q1 := cell_kept e2 (grownBy_putObj' _ D (.deferred none)) (fun r e => by cases e; exact ⟨_, hK, rfl⟩)
      refine ⟨val2 (((pickI zs d : Nat) : Int), true), ?_, by rw [hv.out], hB.trans (belowK_b (w := w) (Nat.le_refl _) W D _ _ (by have := hB7.size; omega) hK rfl rfl)⟩
      simp [results, Try.f15, go_sem, q0, q1, val2]

theorem costPick_any (a : Option Addr) (len cap : Nat) (zs : List Int) (draw : Nat) (hd : draw < 18446744073709551616) (w : World) (hI : IL w a len cap zs) : Calls Try.prog 15 #[.slice a len cap, .int .u64 draw] w (Gives (val2 (pickV zs draw)) w) :=
  (callsIn_wide.1 (pick_in 5 (Nat.le_refl _) a len cap zs draw hd w hI)).mono fun e w' h => h

end Go.Proofs.Ytahkiabpjfcfdaa
