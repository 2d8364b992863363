/- Layer 2: what comes in is what goes out, and the fee. -/
import Derived.Test.YtghjpbmemogioaaMoneyParts
import Derived.Test.YtghjpbmemogioaaOpenInts
namespace Go.Proofs.Ytghjpbmemogioaa
open Go.RowKit
set_option linter.unusedVariables false
set_option linter.unusedSimpArgs false
attribute [local go_sem ↓] append_i64

/-- Two slices of the call's own, in different blocks. -/
structure Two (w : World) (base ga na ca : Nat) (la : List Int) (gb nb cb : Nat) (lb : List Int) : Prop where
  fst : OwnI w base (.slice (some ⟨ga, 0, none⟩) na ca) la
  snd : OwnI w base (.slice (some ⟨gb, 0, none⟩) nb cb) lb
  ne : ga ≠ gb
theorem Two.symm {w : World} {base ga na ca : Nat} {la : List Int} {gb nb cb : Nat} {lb : List Int} (h : Two w base ga na ca la gb nb cb lb) : Two w base gb nb cb lb ga na ca la := ⟨h.snd, h.fst, fun e => h.ne e.symm⟩
theorem OwnV.at {w w' : World} {base g n c : Nat} {e : TypeId} {vs : List Value} (h : OwnV w base e (.slice (some ⟨g, 0, none⟩) n c) vs) (hb : w'.heap[g]? = w.heap[g]?) : OwnV w' base e (.slice (some ⟨g, 0, none⟩) n c) vs := by
  obtain ⟨h1, h2⟩ := h
  refine ⟨h1, ?_⟩
  rcases h2 with ⟨h2, _⟩ | ⟨g', cap, cur, hv, hg, hh, r⟩
  · cases h2
  · have e : g = g' := by injection hv with e1; injection e1 with e1; injection e1
    subst e
    exact .inr ⟨g, cap, cur, hv, hg, by rw [hb]; exact hh, r⟩
theorem Two.grow {w : World} {base ga na ca : Nat} {la : List Int} {gb nb cb : Nat} {lb : List Int} (h : Two w base ga na ca la gb nb cb lb) (hbase : base ≤ w.heap.size) (x : Int) (ty : TypeId) (hlen : la.length + 1 ≤ 2000000) :
    ∃ g c' w', appTo Try.prog 22 ty (w.alloc (.cells #[.int .i64 x] 2)) (.slice (some ⟨ga, 0, none⟩) na ca) (.slice (some ⟨w.heap.size, 0, none⟩) 1 1) = .ok (.value (.slice (some ⟨g, 0, none⟩) (la.length + 1) c')) w' ∧ Two w' base g (la.length + 1) c' (la ++ [x]) gb nb cb lb ∧ Below base w w' ∧ w.heap.size ≤ w'.heap.size := by
  obtain ⟨i, hi, hs, hb, hz⟩ := info_i64
  have hB : Below w.heap.size w (w.alloc (.cells #[.int .i64 x] 2)) := (Below.refl _ _).alloc (Nat.le_refl _) _
  obtain ⟨g, c', w', h1, h2, h3, h4⟩ := appTo_val (ty := ty) Try.underlying22 hi hs hb hz rfl (by omega) h.fst hbase (.int .i64 x) rfl (by rw [rowsI_length]; exact hlen)
  rw [rowsI_length] at h1 h2
  have hgb := h.snd.row.2.2.1
  have hga := h.fst.row.2.2.1
  refine ⟨g, c', w', h1, ⟨?_, h.snd.at ?_, ?_⟩, (hB.mono hbase).trans (grown_below h3 h.fst.ownBlock_le (Nat.le_trans hbase hB.size)), Nat.le_trans hB.size h3.size⟩
  · show OwnV _ _ _ _ (rows iC (la ++ [x]))
    rw [rows_append, rows_one]
    exact h2
  · rw [h3.block gb (Nat.lt_of_lt_of_le hgb hB.size) (by show some gb ≠ some ga; intro e; injection e with e; exact h.ne e.symm)]
    exact hB.block gb hgb
  · rcases h4 with h4 | h4
    · have : some ga = some g := h4
      injection this with this
      rw [← this]
      exact h.ne
    · omega

/-- The numbers. -/
def vals (l : List { x : Int // InK .u32 x }) : List Int := l.map (·.1)
theorem vals_may (l : List { x : Int // InK .u32 x }) : AllMay (vals l) := by
  intro x hx
  obtain ⟨y, _, rfl⟩ := List.mem_map.1 hx
  have := bounds_u32 y.2
  omega
theorem vals_sum : ∀ (l : List { x : Int // InK .u32 x }), 0 ≤ (vals l).sum ∧ (vals l).sum ≤ l.length * 4294967295
  | [] => by simp [vals]
  | x :: l => by
    have h := vals_sum l
    have := bounds_u32 x.2
    have e : vals (x :: l) = x.1 :: vals l := rfl
    rw [e, List.sum_cons, List.length_cons]
    push_cast
    omega
theorem vals_take_sum (l : List { x : Int // InK .u32 x }) (j : Nat) : 0 ≤ (vals (l.take j)).sum ∧ (vals (l.take j)).sum ≤ l.length * 4294967295 := by
  have h := vals_sum (l.take j)
  rw [List.length_take] at h
  have : ((min j l.length : Nat) : Int) ≤ l.length := by omega
  omega
theorem vals_succ {l : List { x : Int // InK .u32 x }} {j : Nat} {x : { x : Int // InK .u32 x }} (hx : l[j]? = some x) : vals (l.take (j + 1)) = vals (l.take j) ++ [x.1] := by
  unfold vals
  rw [List.take_add_one, hx, List.map_append]
  rfl
theorem vals_sum_succ {l : List { x : Int // InK .u32 x }} {j : Nat} {x : { x : Int // InK .u32 x }} (hx : l[j]? = some x) : (vals (l.take (j + 1))).sum = (vals (l.take j)).sum + x.1 := by
  rw [vals_succ hx, List.sum_append]; simp
theorem vals_length (l : List { x : Int // InK .u32 x }) : (vals l).length = l.length := by unfold vals; rw [List.length_map]
theorem vals_I64 (l : List { x : Int // InK .u32 x }) : ∀ x ∈ vals l, I64 x := fun x hx => by
  have := vals_may l x hx
  unfold I64
  omega
theorem feeO_plain {l m : List { x : Int // InK .u32 x }} {bal : Int} (hl : l.length ≤ 200) (hm : m.length ≤ 200) (hb0 : -2147483648 ≤ bal) (hb1 : bal ≤ 2147483647) :
    feeO (vals l) (vals m) bal = if 0 ≤ bal + (vals l).sum - (vals m).sum then some (bal + (vals l).sum - (vals m).sum) else none := by
  have sl := vals_sum l
  have sm := vals_sum m
  have e1 : addedO (vals l) = some (vals l).sum := addedO_some_iff.2 ⟨vals_may l, by omega, rfl⟩
  have e2 : addedO (vals m) = some (vals m).sum := addedO_some_iff.2 ⟨vals_may m, by omega, rfl⟩
  unfold feeO
  rw [e1, e2]
  generalize (vals l).sum = L at *
  generalize (vals m).sum = M at *
  show (if 0 ≤ bal then (addV L bal).bind (fun s => lessO s M) else (addV M (negV bal)).bind fun s => lessO L s) = _
  have hL : sureO L = some L := by unfold sureO; rw [if_pos (by omega)]
  have hM : sureO M = some M := by unfold sureO; rw [if_pos (by omega)]
  by_cases h : 0 ≤ bal
  · have e3 : addV L bal = some (L + bal) := by
      rw [addV_eq, hL, show sureO bal = some bal from by unfold sureO; rw [if_pos (by omega)]]
      show sureO (L + bal) = _
      unfold sureO; rw [if_pos (by omega)]
    rw [if_pos h, e3]
    show lessO (L + bal) M = _
    unfold lessO
    rw [show sureO (L + bal) = some (L + bal) from by unfold sureO; rw [if_pos (by omega)], hM]
    show sureO (L + bal - M) = _
    unfold sureO
    rw [show L + bal - M = bal + L - M from by omega]
    by_cases hs : 0 ≤ bal + L - M
    · rw [if_pos (by omega), if_pos hs]
    · rw [if_neg (by omega), if_neg hs]
  · have hn : negV bal = -bal := by unfold negV wrap64; omega
    have e3 : addV M (negV bal) = some (M + -bal) := by
      rw [addV_eq, hM, hn, show sureO (-bal) = some (-bal) from by unfold sureO; rw [if_pos (by omega)]]
      show sureO (M + -bal) = _
      unfold sureO; rw [if_pos (by omega)]
    rw [if_neg h, e3]
    show lessO L (M + -bal) = _
    unfold lessO
    rw [hL, show sureO (M + -bal) = some (M + -bal) from by unfold sureO; rw [if_pos (by omega)]]
    show sureO (L - (M + -bal)) = _
    unfold sureO
    rw [show L - (M + -bal) = bal + L - M from by omega]
    by_cases hs : 0 ≤ bal + L - M
    · rw [if_pos (by omega), if_pos hs]
    · rw [if_neg (by omega), if_neg hs]
abbrev UL (w : World) (a : Option Addr) (n c : Nat) (l : List { x : Int // InK .u32 x }) : Prop := SL (kC .u32) 1 w a n c l
theorem UL.at {w : World} {a : Option Addr} {n c : Nat} {l : List { x : Int // InK .u32 x }} (h : UL w a n c l) {i : Nat} {x : { x : Int // InK .u32 x }} (hx : l[i]? = some x) : ∃ b o, a = some ⟨b, o, none⟩ ∧ b < w.heap.size ∧ w.cell? ⟨b, o + i, none⟩ = some (.int .u32 x.1) := by
  obtain ⟨b, o, ha, hb, hr⟩ := SL.elem (f := kC .u32) (n := 1) (fun _ => rfl) h hx
  refine ⟨b, o, ha, hb, ?_⟩
  rw [Nat.mul_one] at hr
  have := (rowOf_some.1 hr).2 0 (.int .u32 x.1) rfl
  rwa [Nat.add_zero] at this
theorem open_u32s {H : Type} {enc : TypeId × Value → H} {w : World} {base : Nat} {spare : Nat → Bool} {held : Bool} {v : Value} {d : DataW H} {p : List MemPlace} {r : Reach} {b0 : Nat} (hv : Value.okWide Try.prog w r b0 31 v) (h : DataW.Trod enc Try.prog w base spare held 31 v d p) :
    ∃ (a : Option Addr) (n c : Nat) (l : List { x : Int // InK .u32 x }), v = .slice a n c ∧ UL w a n c l :=
  open_kind (k := .u32) Try.underlying31 Try.underlying32 (by kernel_rfl) hv h

set_option maxHeartbeats 4000000 in
theorem moneyFees_walk (a1 a2 : Option Addr) (n1 c1 n2 c2 : Nat) (l m : List { x : Int // InK .u32 x }) (bal : Int) (W : World) (hb0 : -2147483648 ≤ bal) (hb1 : bal ≤ 2147483647) (h1 : UL W a1 n1 c1 l) (h2 : UL W a2 n2 c2 m) : Calls Try.prog 6 #[.slice a1 n1 c1, .slice a2 n2 c2, .int .i32 bal] W (LawEnd W) := by
  have hl1 := h1.1
  have hl2 := h2.1
  replace h1 := Box.mk h1
  replace h2 := Box.mk h2
  replace hl1 := Box.mk hl1
  replace hl2 := Box.mk hl2
  by_cases hn1 : 200 < n1
  · go_enter Try.func6, Try.ntmps6
    go_wp2_with fail
    refine (shown02 _).mono ?_
    rintro e w1 ⟨rfl, hb1⟩
    go_wp2
    go_ret
    exact gives_bool rfl hb1
  · by_cases hn2 : 200 < n2
    · go_enter Try.func6, Try.ntmps6
      go_wp2_with fail
      refine (shown02 _).mono ?_
      rintro e w1 ⟨rfl, hb1⟩
      go_wp2
      go_ret
      exact gives_bool rfl hb1
    · have hP := feeO_plain (l := l) (m := m) (bal := bal) (by have := hl1.out; omega) (by have := hl2.out; omega) hb0 hb1
      replace hP := Box.mk hP
      have hL : Box (l.length ≤ 200) := Box.mk (by have := hl1.out; omega)
      have hM : Box (m.length ≤ 200) := Box.mk (by have := hl2.out; omega)
      go_enter Try.func6, Try.ntmps6
      go_wp2_with fail
      refine (shown02 _).mono ?_
      rintro e w1 ⟨rfl, hb1'⟩
      go_wp2_with fail
      have hO : Two ((w1.alloc (.cells #[] 2)).alloc (.cells #[] 2)) w1.heap.size w1.heap.size 0 0 [] (w1.heap.size + 1) 0 0 [] := by
        refine ⟨(OwnI.empty w1 _ _ rfl (Nat.le_refl _)).below ((Below.refl _ _).alloc (Nat.le_refl _) _), OwnI.empty _ _ _ (by simp) (by omega), by omega⟩
      have hB0 : Below w1.heap.size w1 ((w1.alloc (.cells #[] 2)).alloc (.cells #[] 2)) := ((Below.refl _ _).alloc (Nat.le_refl _) _).alloc (by simp) _
      obtain ⟨w2, hw2⟩ : ∃ w2, w2 = (w1.alloc (.cells #[] 2)).alloc (.cells #[] 2) := ⟨_, rfl⟩
      rw [← hw2] at hO hB0 ⊢
      replace hw2 := Box.mk hw2
      have hB2 : Below W.heap.size W w2 := hb1'.trans (hB0.mono hb1'.size)
      go_loopw [7, 9, 10] (fun v s i wr => Below w1.heap.size w1 wr ∧ ∃ j : Nat, j ≤ n1 ∧ i = .int .i64 j ∧ s = .int .i64 (bal + (vals (l.take j)).sum) ∧ ∃ g c', v = .slice (some ⟨g, 0, none⟩) j c' ∧ Two wr w1.heap.size g j c' (vals (l.take j)) (w1.heap.size + 1) 0 0 []) (fun _ _ i _ => n1 - (intOf i).toNat)
      case atStart => exact ⟨hB0, 0, Nat.zero_le _, rfl, by simp [vals], _, _, rfl, hO⟩
      case round =>
        obtain ⟨hbr, j, hj, rfl, rfl, g, c', rfl, hT⟩ := hrel
        have hsz := hbr.size
        have hs := vals_take_sum l j
        by_cases hlt : j < n1
        · have hlt' : (j : Int) < (n1 : Int) := by omega
          have hjl : j < l.length := by rw [← hl1.out]; exact hlt
          have hx : l[j]? = some l[j] := List.getElem?_eq_getElem hjl
          obtain ⟨b', o, rfl, hb', hc⟩ := UL.at h1.out hx
          have hc' : wr.cell? ⟨b', o + j, none⟩ = some (.int .u32 l[j].1) := by rw [hbr.cell (p := ⟨b', o + j, none⟩) (Nat.lt_of_lt_of_le hb' hb1'.size), hb1'.cell (p := ⟨b', o + j, none⟩) hb']; exact hc
          have hbsz : b' < wr.heap.size := Nat.lt_of_lt_of_le hb' (Nat.le_trans hb1'.size hsz)
          have hbw1 : b' < w1.heap.size := Nat.lt_of_lt_of_le hb' hb1'.size
          have hbd := bounds_u32 l[j].2
          have hvs := vals_succ hx
          have hvm := vals_sum_succ hx
          have hlen : (vals (l.take j)).length = j := by rw [vals_length, List.length_take]; omega
          have hll := hL.out
          generalize l[j] = x at *
          obtain ⟨x, hxk⟩ := x
          simp only at hc hc' hbd hvs hvm
          generalize (vals (l.take j)).sum = t at *
          have hw1 : IntKind.i64.wrap x = x := by rw [IntKind.wrap_i64]; omega
          have hw2' : wrap64 x = x := by unfold wrap64; omega
          have hw3 : wrap64 (bal + t + x) = bal + t + x := by unfold wrap64; omega
          replace hx := Box.mk hx
          replace hc := Box.mk hc
          replace hvs := Box.mk hvs
          replace hvm := Box.mk hvm
          replace hlen := Box.mk hlen
          replace hs := Box.mk hs
          replace hbd := Box.mk hbd
          replace hll := Box.mk hll
          go_wp2_with fail
          obtain ⟨g', c'', w', hap, hT', hb'', hs''⟩ := hT.grow hsz x 22 (by rw [hlen.out]; have := hll.out; omega)
          rw [hlen.out] at hap hT'
          rw [← hvs.out] at hT'
          rw [hap]
          replace hap := Box.mk hap
          have hc2 : w'.cell? ⟨b', o + j, none⟩ = some (.int .u32 x) := by rw [hb''.cell (p := ⟨b', o + j, none⟩) hbw1]; exact hc'
          have hbs2 : b' < w'.heap.size := by omega
          go_wp2
          go_roundw
          case rel => exact ⟨hbr.trans hb'', j + 1, by omega, by go_num, by rw [hvm.out, ← Int.add_assoc]; first | rw [hw3] | rfl, g', c'', rfl, hT'⟩
          case measure => simp [intOf]; omega
        · obtain rfl : j = n1 := by omega
          rw [hl1.out, List.take_length, ← hl1.out] at hT
          rw [show l.take j = l from by rw [hl1.out, List.take_length]] at hs ⊢
          obtain ⟨wb, hwb⟩ : ∃ wb, wb = wr := ⟨_, rfl⟩
          subst hwb
          obtain ⟨L, hLd⟩ : ∃ L, L = (vals l).sum := ⟨_, rfl⟩
          rw [← hLd] at hs ⊢
          replace hLd := Box.mk hLd
          replace hs := Box.mk hs
          replace hT := Box.mk hT
          go_wp2_with fail
          go_loopw [8, 9, 11] (fun v s i wr => Below w1.heap.size w1 wr ∧ ∃ k : Nat, k ≤ n2 ∧ i = .int .i64 k ∧ s = .int .i64 (bal + L - (vals (m.take k)).sum) ∧ ∃ gb cb, v = .slice (some ⟨gb, 0, none⟩) k cb ∧ Two wr w1.heap.size gb k cb (vals (m.take k)) g j c' (vals l)) (fun _ _ i _ => n2 - (intOf i).toNat)
          case atStart => exact ⟨hbr, 0, Nat.zero_le _, rfl, by simp [vals], _, _, rfl, hT.out.symm⟩
          case round =>
            obtain ⟨hbr2, k, hk, rfl, rfl, gb, cb, rfl, hT2⟩ := hrel
            have hsz2 := hbr2.size
            have hs2 := vals_take_sum m k
            by_cases hlt2 : k < n2
            · have hlt2' : (k : Int) < (n2 : Int) := by omega
              have hjl : k < m.length := by rw [← hl2.out]; exact hlt2
              have hx : m[k]? = some m[k] := List.getElem?_eq_getElem hjl
              obtain ⟨b', o, rfl, hb', hc⟩ := UL.at h2.out hx
              have hc' : wr.cell? ⟨b', o + k, none⟩ = some (.int .u32 m[k].1) := by rw [hbr2.cell (p := ⟨b', o + k, none⟩) (Nat.lt_of_lt_of_le hb' hb1'.size), hb1'.cell (p := ⟨b', o + k, none⟩) hb']; exact hc
              have hbsz : b' < wr.heap.size := Nat.lt_of_lt_of_le hb' (Nat.le_trans hb1'.size hsz2)
              have hbw1 : b' < w1.heap.size := Nat.lt_of_lt_of_le hb' hb1'.size
              have hbd := bounds_u32 m[k].2
              have hvs := vals_succ hx
              have hvm := vals_sum_succ hx
              have hlen : (vals (m.take k)).length = k := by rw [vals_length, List.length_take]; omega
              have hll := hL.out
              have hmm := hM.out
              have hs1 := hs.out
              generalize m[k] = x at *
              obtain ⟨x, hxk⟩ := x
              simp only at hc hc' hbd hvs hvm
              generalize (vals (m.take k)).sum = t at *
              have hw1 : IntKind.i64.wrap x = x := by rw [IntKind.wrap_i64]; omega
              have hw2' : wrap64 x = x := by unfold wrap64; omega
              have hw3 : wrap64 (bal + L - t - x) = bal + L - t - x := by unfold wrap64; omega
              clear hs1 hll
              replace hx := Box.mk hx
              replace hc := Box.mk hc
              replace hvs := Box.mk hvs
              replace hvm := Box.mk hvm
              replace hlen := Box.mk hlen
              replace hs2 := Box.mk hs2
              replace hbd := Box.mk hbd
              replace hmm := Box.mk hmm
              go_wp2_with fail
              obtain ⟨g', c'', w', hap, hT', hb'', hs''⟩ := hT2.grow hsz2 x 22 (by rw [hlen.out]; have := hmm.out; omega)
              rw [hlen.out] at hap hT'
              rw [← hvs.out] at hT'
              rw [hap]
              replace hap := Box.mk hap
              have hc2 : w'.cell? ⟨b', o + k, none⟩ = some (.int .u32 x) := by rw [hb''.cell (p := ⟨b', o + k, none⟩) hbw1]; exact hc'
              have hbs2 : b' < w'.heap.size := by omega
              go_wp2
              go_roundw
              case rel => exact ⟨hbr2.trans hb'', k + 1, by omega, by go_num, by rw [hvm.out]; congr 1; omega, g', c'', rfl, hT'⟩
              case measure => simp [intOf]; omega
            · obtain rfl : k = n2 := by omega
              rw [show m.take k = m from by rw [hl2.out, List.take_length]] at hs2 hT2 ⊢
              have hA : IL wr (some ⟨g, 0, none⟩) j c' (vals l) := OwnI.il hT2.snd (vals_I64 l)
              have hBm : IL wr (some ⟨gb, 0, none⟩) k cb (vals m) := OwnI.il hT2.fst (vals_I64 m)
              have hBf : Below W.heap.size W wr := hb1'.trans (hbr2.mono hb1'.size)
              have hPp := hP.out
              rw [← hLd.out] at hPp
              obtain ⟨M, hMd⟩ : ∃ M, M = (vals m).sum := ⟨_, rfl⟩
              rw [← hMd] at hs2 hPp ⊢
              replace hMd := Box.mk hMd
              have hbI : I64 bal := by unfold I64; omega
              replace hA := Box.mk hA
              replace hBm := Box.mk hBm
              replace hs2 := Box.mk hs2
              replace hbI := Box.mk hbI
              have hw5 : IntKind.i64.wrap bal = bal := by rw [IntKind.wrap_i64]; omega
              clear hT2
              by_cases hS : 0 ≤ bal + L - M
              · rw [if_pos hS] at hPp
                replace hPp := Box.mk hPp
                go_wp2_with fail
                refine (fee_any _ _ j c' k cb (vals l) (vals m) bal _ hbI.out hA.out hBm.out).mono ?_
                rw [hPp.out]
                rintro e w5 ⟨rfl, hb5⟩
                simp only [toldV, valN_some, errN_some]
                generalize bal + L - M = S at *
                go_wp2
                go_ret
                exact gives_bool rfl (since_next hBf hb5)
              · rw [if_neg hS] at hPp
                replace hPp := Box.mk hPp
                go_wp2_with fail
                refine (fee_any _ _ j c' k cb (vals l) (vals m) bal _ hbI.out hA.out hBm.out).mono ?_
                rw [hPp.out]
                rintro e w5 ⟨rfl, hb5⟩
                simp only [toldV, valN_none, errN_none]
                generalize bal + L - M = S at *
                go_wp2
                go_ret
                exact gives_bool (by simp; omega) (since_next hBf hb5)

end Go.Proofs.Ytghjpbmemogioaa
