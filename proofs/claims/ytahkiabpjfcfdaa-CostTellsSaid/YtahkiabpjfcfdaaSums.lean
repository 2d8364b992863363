/- Package cost: the sums of weights, an iterator. -/
import Derived.RangeFuncNested
import Derived.RangeFuncBound
import Derived.RangeFuncCalls
import Derived.RangeFuncLeaves
import Derived.RangeFuncBox
import Derived.Shelf.Abstract
import Derived.Shelf.RegionOpen
import Derived.WalkKit
import Derived.OwnWalkIn
import Derived.TacticsInMore
import Derived.LoopNIn
import Derived.LoopIn
import Derived.Test.YtahkiabpjfcfdaaInts
namespace Go.Proofs.Ytahkiabpjfcfdaa
open Go.RowKit Go.Shelf
set_option linter.unusedVariables false
set_option linter.unusedSimpArgs false
set_option maxRecDepth 100000

/-! ### Plain -/
/-- What the iterator tells of a list, from place i and sum n on. -/
def sumsF : Nat → Int → List Int → List (Nat × Int)
  | _, _, [] => []
  | i, n, w :: l => if w < 1 ∨ 1099511627776 < w ∨ 1000 ≤ i then [(i, -1)] else (i, n + w) :: sumsF (i + 1) (n + w) l
def okW (l : List Int) : Prop := ∀ w ∈ l, 1 ≤ w ∧ w ≤ 1099511627776
theorem sumsF_nonneg : ∀ (l : List Int) (i : Nat) (n : Int), 0 ≤ n → okW l → i + l.length ≤ 1000 → ∀ p ∈ sumsF i n l, 0 ≤ p.2
  | [], _, _, _, _, _, p, hp => by simp [sumsF] at hp
  | w :: l, i, n, hn, ho, hl, p, hp => by
    have hw := ho w (by simp)
    rw [sumsF, if_neg (by rw [List.length_cons] at hl; omega)] at hp
    rcases List.mem_cons.1 hp with rfl | hp
    · show 0 ≤ n + w; omega
    · exact sumsF_nonneg l (i + 1) (n + w) (by omega) (fun x hx => ho x (by simp [hx])) (by rw [List.length_cons] at hl; omega) p hp
/-- The last sum. -/
def lastN (d : Int) (l : List (Nat × Int)) : Int := (l.getLast?.map (·.2)).getD d
theorem lastN_snoc (d : Int) (l : List (Nat × Int)) (x : Nat × Int) : lastN d (l ++ [x]) = x.2 := by unfold lastN; simp
theorem lastN_cons (d : Int) (x : Nat × Int) (l : List (Nat × Int)) : lastN d (x :: l) = lastN x.2 l := by
  unfold lastN
  cases l with
  | nil => rfl
  | cons y l => rw [List.getLast?_cons_cons]; rw [List.getLast?_cons]; rfl
theorem sumsF_ok : ∀ (l : List Int) (i : Nat) (n : Int), 0 ≤ n → i ≤ 1000 → (∀ p ∈ sumsF i n l, 0 ≤ p.2) → okW l ∧ i + l.length ≤ 1000 ∧ lastN n (sumsF i n l) = n + l.sum
  | [], i, n, _, hi, _ => ⟨fun x hx => by simp at hx, by simpa using hi, by simp [sumsF, lastN]⟩
  | w :: l, i, n, hn, hi, h => by
    rw [sumsF] at h ⊢
    by_cases hb : w < 1 ∨ 1099511627776 < w ∨ 1000 ≤ i
    · rw [if_pos hb] at h
      have := h (i, -1) (by simp)
      simp at this
    · rw [if_neg hb] at h ⊢
      obtain ⟨h1, h2, h3⟩ := sumsF_ok l (i + 1) (n + w) (by omega) (by omega) (fun p hp => h p (by simp [hp]))
      refine ⟨fun x hx => ?_, by rw [List.length_cons]; omega, by rw [lastN_cons, h3, List.sum_cons]; omega⟩
      rcases List.mem_cons.1 hx with rfl | hx
      · omega
      · exact h1 x hx
/-- The place that a draw picks. -/
def pickI : List Int → Int → Nat
  | [], _ => 0
  | w :: l, d => if d < w then 0 else 1 + pickI l (d - w)
theorem pick_at (d : Int) : ∀ (l : List Int) (i : Nat) (n : Int) (ini : List (Nat × Int)) (x : Nat × Int), okW l → i + l.length ≤ 1000 → ini ++ [x] <+: sumsF i n l → (∀ p ∈ ini, p.2 ≤ d) → d < x.2 → x.1 = i + pickI l (d - n)
  | [], i, n, ini, x, _, _, h, _, _ => by
    rw [sumsF] at h
    have := List.IsPrefix.length_le h
    simp at this
  | w :: l, i, n, ini, x, ho, hl, h, hp, hx => by
    have hw := ho w (by simp)
    rw [sumsF, if_neg (by rw [List.length_cons] at hl; omega)] at h
    rw [pickI]
    cases ini with
    | nil =>
      rw [List.nil_append, List.cons_prefix_cons] at h
      obtain ⟨rfl, _⟩ := h
      replace hx : d < n + w := hx
      rw [if_pos (by omega)]; rfl
    | cons y ini =>
      rw [List.cons_append, List.cons_prefix_cons] at h
      obtain ⟨rfl, h⟩ := h
      have hy := hp (i, n + w) (by simp)
      replace hy : n + w ≤ d := hy
      rw [if_neg (by omega), pick_at d l (i + 1) (n + w) ini x (fun z hz => ho z (by simp [hz])) (by rw [List.length_cons] at hl; omega) h (fun p hp' => hp p (by simp [hp'])) hx, show d - (n + w) = d - n - w from by omega]
      omega
theorem lastN_mem : ∀ (l : List (Nat × Int)) (d : Int), l ≠ [] → ∃ p ∈ l, p.2 = lastN d l
  | [], _, h => absurd rfl h
  | x :: l, d, _ => by
    rw [lastN_cons]
    cases l with
    | nil => exact ⟨x, by simp, rfl⟩
    | cons y l =>
      obtain ⟨p, hp, he⟩ := lastN_mem (y :: l) x.2 (by simp)
      exact ⟨p, by simp [hp], he⟩

attribute [local go_sem] Oper.semAt_some

set_option maxHeartbeats 2000000 in
theorem sums1_in (n : Nat) (hn : 1 ≤ n) (l Bs : Nat) (w0 : World) (a : Option Addr) (len cap : Nat) (zs : List Int) (hI : IL w0 a len cap zs) (J Jx : List (Nat × Int) → World → Prop)
    (hY : ∀ (pre : List (Nat × Int)) (x : Nat × Int) W, J pre W → pre.length < zs.length → YieldAt Fence.wide (n - 1) Try.prog l #[.int .i64 (x.1 : Int), .int .i64 x.2] W fun e W' =>
      (e = .returned (.bool true) ∧ J (pre ++ [x]) W' ∧ Below w0.heap.size W W') ∨ (e = .returned (.bool false) ∧ Jx (pre ++ [x]) W'))
    (W : World) (hW : Below w0.heap.size w0 W) (hBs : W.cell? ⟨Bs, 0, none⟩ = some (.slice a len cap)) (h0 : J [] W) :
    CallsIn Fence.wide n Try.prog 72 #[.func (.yield l) #[] #[], .pointer (some ⟨Bs, 0, none⟩)] W fun e W' => (∃ v, e = .returned v) ∧
      ((∃ ys, ys = sumsF 0 0 zs ∧ J ys W') ∨ (∃ pre, pre <+: sumsF 0 0 zs ∧ Jx pre W')) := by
  have hlen : len = zs.length := hI.1.1
  have hmax : (len : Int) ≤ 9223372036854775807 := by have := Nat.le_trans hI.1.2.1 hI.1.2.2.1; unfold maxLen at this; omega
  replace hI := Box.mk hI
  replace hY := Box.mk hY
  replace hW := Box.mk hW
  refine callsIn_of_wp Try.func72 rfl trivial ?_ rfl
  simp only [Try.ntmps72, List.size_toArray, List.length_cons, List.length_nil, Nat.reduceAdd, Nat.reduceSub, Array.replicate_succ, Array.replicate_zero, List.push_toArray, List.append_toArray, List.nil_append, List.cons_append]
  gi_wp2
  gi_loopw [3, 8] (fun v x wr => ∃ (k : Nat) (m : Int) (pre : List (Nat × Int)), k ≤ len ∧ x = .int .i64 k ∧ v = .int .i64 m ∧ pre.length = k ∧ pre ++ sumsF k m (zs.drop k) = sumsF 0 0 zs ∧ 0 ≤ m ∧ m ≤ k * 1099511627776 ∧ k ≤ 1000 ∧ J pre wr ∧ Below w0.heap.size W wr)
    (fun _ x _ => len - (intOf x).toNat)
  case atStart => exact ⟨0, 0, [], Nat.zero_le _, rfl, rfl, rfl, by simp, by omega, by omega, by omega, h0, Below.refl _ _⟩
  case round =>
    clear h0
    obtain ⟨k, m, pre, hk, rfl, rfl, hpl, hpre, hm0, hm1, hk1, hJ, hbr⟩ := hrel
    by_cases hlt : k < len
    · have hlt' : (k : Int) < (len : Int) := by omega
      obtain ⟨z, hz⟩ : ∃ z, zs[k]? = some z := ⟨_, List.getElem?_eq_getElem (by omega)⟩
      obtain ⟨b, o, rfl, hb, hc⟩ := hI.out.at hz
      have hd : zs.drop k = z :: zs.drop (k + 1) := by
        rw [List.drop_eq_getElem_cons (by omega)]
        congr 1
        exact (List.getElem?_eq_some_iff.1 hz).2
      have hcx : wr.cell? ⟨b, o + k, none⟩ = some (.int .i64 z) := ((hW.out.trans hbr).cell (p := ⟨b, o + k, none⟩) hb).trans hc
      have hk1' : (k : Int) ≤ 1000 := by omega
      rw [hd, sumsF] at hpre
      have hbs : b < wr.heap.size := Nat.lt_of_lt_of_le hb (hW.out.trans hbr).size
      by_cases hbad : z < 1 ∨ 1099511627776 < z ∨ 1000 ≤ k
      · rw [if_pos hbad] at hpre
        obtain ⟨fn, tmps, assign, body, hy, hR⟩ := hY.out pre (k, -1) wr hJ (by omega)
        dsimp only at hy
        have key : z < 1 ∨ (¬ z < 1 ∧ 1099511627776 < z) ∨ (¬ z < 1 ∧ ¬ 1099511627776 < z ∧ (1000 : Int) ≤ k) := by omega
        replace hbad := Box.mk hbad
        replace hd := Box.mk hd
        replace hz := Box.mk hz
        replace hpre := Box.mk hpre
        replace hpl := Box.mk hpl
        replace hc := Box.mk hc
        replace hJ := Box.mk hJ
        replace hbr := Box.mk hbr
        rcases key with h1 | ⟨h1, h2⟩ | ⟨h1, h2, h3⟩
        all_goals
          gi_wp2
          refine hR.mono ?_
          rintro e W3 (⟨rfl, hJ3, hk3⟩ | ⟨rfl, hJx3⟩)
          · gi_wp2
            refine bodyPost_ret (results_none rfl _ _ _) rfl ?_
            exact ⟨⟨_, rfl⟩, .inl ⟨_, hpre.out, hJ3⟩⟩
          · gi_wp2
            refine bodyPost_ret (results_none rfl _ _ _) rfl ?_
            exact ⟨⟨_, rfl⟩, .inr ⟨_, by rw [← hpre.out]; exact List.prefix_refl _, hJx3⟩⟩
      · rw [if_neg hbad] at hpre
        have g1 : ¬ z < 1 := by omega
        have g2 : ¬ 1099511627776 < z := by omega
        have g3 : ¬ (1000 : Int) ≤ k := by omega
        have hmz : wrap64 (m + z) = m + z := IntWalk.wrap64_in _ ⟨by omega, by omega⟩
        obtain ⟨fn, tmps, assign, body, hy, hR⟩ := hY.out pre (k, m + z) wr hJ (by omega)
        dsimp only at hy
        have hpre' : (pre ++ [(k, m + z)]) ++ sumsF (k + 1) (m + z) (zs.drop (k + 1)) = sumsF 0 0 zs := by rw [← hpre]; simp
        have hpl' : (pre ++ [(k, m + z)]).length = k + 1 := by simp [hpl]
        have hb0 : 0 ≤ m + z := by omega
        have hb1 : m + z ≤ ((k + 1 : Nat) : Int) * 1099511627776 := by omega
        have hb2 : k + 1 ≤ 1000 := by omega
        replace hpre := Box.mk hpre
        replace hpre' := Box.mk hpre'
        replace hpl := Box.mk hpl
        replace hpl' := Box.mk hpl'
        replace hd := Box.mk hd
        replace hz := Box.mk hz
        replace hc := Box.mk hc
        replace hJ := Box.mk hJ
        replace hbr := Box.mk hbr
        replace hb1 := Box.mk hb1
        gi_wp2
        refine hR.mono ?_
        rintro e W3 (⟨rfl, hJ3, hk3⟩ | ⟨rfl, hJx3⟩)
        · gi_wp2
          go_roundw
          case rel => exact ⟨k + 1, m + z, _, by omega, by go_num, rfl, hpl'.out, hpre'.out, hb0, hb1.out, hb2, hJ3, hbr.out.trans hk3⟩
          case measure => simp [intOf]; omega
        · gi_wp2
          refine bodyPost_ret (results_none rfl _ _ _) rfl ?_
          exact ⟨⟨_, rfl⟩, .inr ⟨_, ⟨_, hpre'.out⟩, hJx3⟩⟩
    · obtain rfl : k = len := by omega
      have hge : ¬ ((k : Nat) : Int) < (k : Int) := by omega
      have hall : pre = sumsF 0 0 zs := by rw [← hpre, List.drop_of_length_le (by omega)]; simp [sumsF]
      replace hpre := Box.mk hpre
      replace hpl := Box.mk hpl
      replace hall := Box.mk hall
      gi_wp2
      go_end0
      exact ⟨⟨_, rfl⟩, .inl (by rw [← hall.out]; exact hJ)⟩

set_option maxHeartbeats 1000000 in
theorem sums_in (n : Nat) (a : Option Addr) (len cap : Nat) (w : World) :
    CallsIn Fence.wide n Try.prog 41 #[.slice a len cap] w fun e w' => e = .returned (.func (.func 72) #[] #[.pointer (some ⟨w.heap.size, 0, none⟩)]) ∧ w' = w.alloc (.cells #[.slice a len cap] 25) := by
  refine callsIn_of_wp Try.func41 rfl trivial ?_ rfl
  simp only [Try.ntmps41, List.size_toArray, List.length_cons, List.length_nil, Nat.reduceAdd, Nat.reduceSub, Array.replicate_succ, Array.replicate_zero, List.push_toArray, List.append_toArray, List.nil_append, List.cons_append]
  gi_wp2
  go_ret
  exact ⟨rfl, rfl⟩

theorem sums_stops (n : Nat) (hn : 1 ≤ n) (Bs : Nat) (w0 w : World) (a : Option Addr) (len cap : Nat) (zs : List Int) (hI : IL w0 a len cap zs) (hw : Below w0.heap.size w0 w) (hBs : Bs < w.heap.size) (hc : w.cell? ⟨Bs, 0, none⟩ = some (.slice a len cap)) :
    SeqStopsK Fence.wide n Try.prog 72 #[.pointer (some ⟨Bs, 0, none⟩)] (fun x : Nat × Int => #[Value.int .i64 (x.1 : Int), Value.int .i64 x.2]) (Below w0.heap.size) (fun ys => ys = sumsF 0 0 zs) (fun pre => pre <+: sumsF 0 0 zs) zs.length w := fun l J Jx W hW _ _ hY h0 =>
  sums1_in n hn l Bs w0 a len cap zs hI J Jx hY W (hw.trans (hW.mono hw.size)) ((hW.cell (p := ⟨Bs, 0, none⟩) hBs).trans hc) h0

end Go.Proofs.Ytahkiabpjfcfdaa
