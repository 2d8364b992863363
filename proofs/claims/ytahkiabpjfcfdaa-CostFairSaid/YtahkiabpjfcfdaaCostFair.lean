/- Layer 14: each place is picked by as many draws as it weighs; draws go round at the sum. -/
import Derived.Test.YtahkiabpjfcfdaaU8s
import Derived.Test.YtahkiabpjfcfdaaSince
import Derived.Test.YtahkiabpjfcfdaaOth
namespace Go.Proofs.Ytahkiabpjfcfdaa
open Go.RowKit
set_option linter.unusedVariables false
set_option linter.unusedSimpArgs false
set_option maxRecDepth 100000

/-! ### make([]int64, n) -/
def makeITo (P : Program) (t e : TypeId) (w : World) (u v : Value) : Result Next :=
  match u, v with
  | .int .i64 k, .int .i64 k' => if k = k' ∧ 0 ≤ k ∧ k ≤ 2000000 then .ok (.value (.slice (some ⟨w.heap.size, 0, none⟩) k.toNat k.toNat)) (w.alloc (.cells (rows iC (List.replicate k.toNat 0)).toArray e)) else slowMakeB P t u v w
  | u, v => slowMakeB P t u v w
@[go_sem] theorem makeITo_ok (P : Program) (t e : TypeId) (w : World) (k : Int) :
    makeITo P t e w (.int .i64 k) (.int .i64 k) = if 0 ≤ k ∧ k ≤ 2000000 then .ok (.value (.slice (some ⟨w.heap.size, 0, none⟩) k.toNat k.toNat)) (w.alloc (.cells (rows iC (List.replicate k.toNat 0)).toArray e)) else slowMakeB P t (.int .i64 k) (.int .i64 k) w := by
  simp only [makeITo, true_and]
theorem rows_iC_get {l : List Int} {i : Nat} {x : Int} (h : l[i]? = some x) : (rows iC l)[i]? = some (.int .i64 x) := by
  have := rows_elem iC_length h
  rw [Nat.mul_one] at this
  have h2 := congrArg (fun z : List Value => z[0]?) this
  simpa [List.getElem?_take, iC] using h2
theorem rows_iC_map (l : List Int) : rows iC l = l.map (fun x => Value.int .i64 x) := by
  induction l with
  | nil => rw [rows_nil]; rfl
  | cons x l ih => rw [rows_cons, ih]; rfl
theorem made_i64 (n : Nat) : madeCells (Value.int .i64 0).cells n = (rows iC (List.replicate n 0)).toArray := by
  rw [rows_iC_map]
  apply Array.ext
  · simp [size_madeCells]
  · intro i h1 h2
    simp [madeCells, Value.cells, Nat.mod_one]
theorem make_i64 (ρ : Operand → Value) (dst : Option Tmp) (x y : Operand) (t' : TypeId) (pos : String) (after : Array Edge) (guard : Option (Nat × Bool)) (w : World) :
    (execOp ρ ⟨dst, .makeSlice 25 x y, t', pos, after, guard⟩).run Try.prog w = makeITo Try.prog 25 2 w (ρ x) (ρ y) := by
  have hslow : (execOp ρ ⟨dst, .makeSlice 25 x y, t', pos, after, guard⟩).run Try.prog w = slowMakeB Try.prog 25 (ρ x) (ρ y) w := rfl
  rw [hslow]
  unfold makeITo
  split
  · rename_i k k' hu' hv'
    split
    · rename_i hk
      obtain ⟨rfl, hk0, hk1⟩ := hk
      obtain ⟨i, hi, hs, hb, hz⟩ := info_i64
      rw [hu', hv']
      simp only [slowMakeB, Sem.run_bind, Go.run_make w 25 2 i _ Try.underlying25 hi hz .i64 .i64 k k hk0 (Int.le_refl _) (by rw [hb]; omega) (by omega), hs, Nat.mul_one, made_i64]
      rfl
    · rfl
  · rfl
/-- A block of numbers. -/
theorem nI_cell {w : World} {b : Nat} {l : List Int} {t : TypeId} {fr : Nat × Nat} (hb : w.heap[b]? = some (.cells (rows iC l).toArray t fr)) {i : Nat} {x : Int} (h : l[i]? = some x) : w.cell? ⟨b, i, none⟩ = some (.int .i64 x) := by
  rw [cell_of_row w b i _ _ _ hb]
  simpa using rows_iC_get h
theorem heap_setCell_nI {w : World} {b : Nat} {l : List Int} {t : TypeId} {fr : Nat × Nat} (hb : w.heap[b]? = some (.cells (rows iC l).toArray t fr)) (i : Nat) (x : Int) : (w.setCell ⟨b, i, none⟩ (.int .i64 x)).heap[b]? = some (.cells (rows iC (l.set i x)).toArray t fr) := by
  have e : (rows iC l).set i (.int .i64 x) = rows iC (l.set i x) := by rw [rows_iC_map, rows_iC_map, List.map_set]
  rw [← e]
  simp only [World.setCell, Array.getElem?_modify, if_true, hb, Option.map_some]
  simp

theorem IL.of {w w' : World} {B b o n c : Nat} {l : List Int} (h : IL w (some ⟨b, o, none⟩) n c l) (hb : Below B w w') (hB : b < B) : IL w' (some ⟨b, o, none⟩) n c l :=
  ⟨⟨h.1.1, h.1.2.1, h.1.2.2.1, h.1.2.2.2.1, fun hne => by
    obtain ⟨b', o', e, hlt, hr⟩ := h.1.2.2.2.2 hne
    injection e with e
    injection e with e1 e2
    subst e1 e2
    exact ⟨_, _, rfl, Nat.lt_of_lt_of_le hlt hb.size, by rw [rowOf_congr (hb.block _ hB)]; exact hr⟩⟩, h.2⟩
/-! ### Plain: how many draws below i pick each place -/
def cntI (l : List Int) (i : Int) (t : Nat) : Int := min (max (i - (l.take t).sum) 0) (l.getD t 0)
def cntL (l : List Int) (i : Int) : List Int := (List.range l.length).map (cntI l i)
theorem cntL_length (l : List Int) (i : Int) : (cntL l i).length = l.length := by unfold cntL; simp
theorem cntL_get {l : List Int} {i : Int} {t : Nat} (h : t < l.length) : (cntL l i)[t]? = some (cntI l i t) := by
  unfold cntL; rw [List.getElem?_map, List.getElem?_range h]; rfl
theorem take_nonneg {l : List Int} (ho : okW l) (t : Nat) : 0 ≤ (l.take t).sum := by
  have := take_sum_mono ho (Nat.zero_le t)
  simpa using this
theorem cntL_zero {l : List Int} (ho : okW l) : cntL l 0 = List.replicate l.length 0 := by
  refine List.ext_getElem? fun t => ?_
  by_cases h : t < l.length
  · rw [cntL_get h, List.getElem?_replicate, if_pos h]
    have := take_nonneg ho t
    have hx : l[t]? = some l[t] := List.getElem?_eq_getElem h
    have hw := ho _ (List.mem_of_getElem? hx)
    unfold cntI
    rw [List.getD_eq_getElem?_getD, hx]
    congr 1
    show min (max (0 - _) 0) l[t] = 0
    omega
  · rw [List.getElem?_eq_none (by rw [cntL_length]; omega), List.getElem?_eq_none (by simp; omega)]
theorem cntL_all {l : List Int} (ho : okW l) : cntL l l.sum = l := by
  refine List.ext_getElem? fun t => ?_
  by_cases h : t < l.length
  · rw [cntL_get h]
    have hx : l[t]? = some l[t] := List.getElem?_eq_getElem h
    have hw := ho _ (List.mem_of_getElem? hx)
    have h1 := take_sum_succ hx
    have h2 := take_sum_mono ho (show t + 1 ≤ l.length by omega)
    rw [List.take_length] at h2
    rw [hx]
    unfold cntI
    rw [List.getD_eq_getElem?_getD, hx]
    congr 1
    show min (max (l.sum - _) 0) l[t] = l[t]
    omega
  · rw [List.getElem?_eq_none (by rw [cntL_length]; omega), List.getElem?_eq_none (by omega)]
theorem cntL_step {l : List Int} (ho : okW l) {i : Int} (h0 : 0 ≤ i) (hi : i < l.sum) :
    (cntL l i)[pickI l i]? = some (cntI l i (pickI l i)) ∧ (cntL l i).set (pickI l i) (cntI l i (pickI l i) + 1) = cntL l (i + 1) := by
  obtain ⟨a1, a2, a3⟩ := pickI_spec ho h0 hi
  generalize pickI l i = k at *
  refine ⟨cntL_get a1, List.ext_getElem? fun t => ?_⟩
  rw [List.getElem?_set, cntL_length]
  by_cases hkt : k = t
  · subst hkt
    rw [if_pos rfl, if_pos a1, cntL_get a1]
    congr 1
    have hx : l[k]? = some l[k] := List.getElem?_eq_getElem a1
    have h1 := take_sum_succ hx
    unfold cntI
    rw [List.getD_eq_getElem?_getD, hx]
    show min (max (i - _) 0) l[k] + 1 = min (max (i + 1 - _) 0) l[k]
    omega
  · rw [if_neg hkt]
    by_cases h : t < l.length
    · rw [cntL_get h, cntL_get h]
      congr 1
      have hx : l[t]? = some l[t] := List.getElem?_eq_getElem h
      have h1 := take_sum_succ hx
      have hw := ho _ (List.mem_of_getElem? hx)
      unfold cntI
      rw [List.getD_eq_getElem?_getD, hx]
      show min (max (i - _) 0) l[t] = min (max (i + 1 - _) 0) l[t]
      by_cases hlt : t < k
      · have := take_sum_mono ho (show t + 1 ≤ k by omega)
        omega
      · have := take_sum_mono ho (show k + 1 ≤ t by omega)
        omega
    · rw [List.getElem?_eq_none (by rw [cntL_length]; omega), List.getElem?_eq_none (by rw [cntL_length]; omega)]
theorem cntI_range {l : List Int} (ho : okW l) (i : Int) (t : Nat) : 0 ≤ cntI l i t ∧ cntI l i t ≤ 1099511627776 := by
  unfold cntI
  cases hx : l[t]? with
  | none => rw [List.getD_eq_getElem?_getD, hx]; show 0 ≤ min _ 0 ∧ min _ 0 ≤ _; omega
  | some x =>
    have hw := ho _ (List.mem_of_getElem? hx)
    rw [List.getD_eq_getElem?_getD, hx]
    show 0 ≤ min _ x ∧ min _ x ≤ _
    omega

attribute [local irreducible] Int.lt Int.le
attribute [local go_sem ↓] append_i64 make_i64
set_option maxHeartbeats 4000000 in
theorem costFair_walk (ad : Option Addr) (n c : Nat) (l : List Nat) (draw : Nat) (hdr : draw < 18446744073709551616) (W : World) (hL : BN W ad n c l) : Calls Try.prog 3 #[.slice ad n c, .int .u64 draw] W (LawEnd W) := by
  have hn : n = l.length := hL.len
  by_cases hn1 : (30 : Int) < n
  · replace hL := Box.mk hL
    replace hn := Box.mk hn
    go_enter Try.func3, Try.ntmps3
    go_wp2_with fail
    refine (shown14 _).mono ?_
    rintro e w1 ⟨rfl, hb1⟩
    go_wp2
    go_ret
    exact gives_bool rfl hb1
  · by_cases hn0 : (n : Int) = 0
    · replace hL := Box.mk hL
      replace hn := Box.mk hn
      go_enter Try.func3, Try.ntmps3
      go_wp2_with fail
      refine (shown14 _).mono ?_
      rintro e w1 ⟨rfl, hb1⟩
      go_wp2
      go_ret
      exact gives_bool rfl hb1
    · obtain ⟨ws, hws⟩ : ∃ ws : List Int, ws = l.map (fun x : Nat => (x : Int) % 9 + 1) := ⟨_, rfl⟩
      have hwl : ws.length = n := by rw [hws, List.length_map, hn]
      have hok : okW ws := by rw [hws]; exact okW_map fun x hx => by have := hL.lt x hx; omega
      have hwn : ws ≠ [] := fun e => by rw [e] at hwl; simp at hwl; omega
      have hS := okW_sum hok
      rw [hwl] at hS
      have hI64 : ∀ x ∈ ws, I64 x := fun x hx => by have := hok x hx; unfold I64; omega
      obtain ⟨S, hSd⟩ : ∃ S : Nat, ws.sum = S := ⟨ws.sum.toNat, by omega⟩
      rw [hSd] at hS
      have hSb : (S : Int) ≤ 100000 := by
        have key : ∀ (l : List Nat), (l.map (fun x : Nat => (x : Int) % 9 + 1)).sum ≤ l.length * 9 := by
          intro l
          induction l with
          | nil => simp
          | cons x l ih => rw [List.map_cons, List.sum_cons, List.length_cons]; omega
        have := key l
        rw [← hws, hSd] at this
        omega
      have hget : ∀ (j x : Nat), l[j]? = some x → ws[j]? = some ((x : Int) % 9 + 1) := fun j x h => by rw [hws, List.getElem?_map, h]; rfl
      replace hws := Box.mk hws
      have hLat := hL.at_
      have hLlt := hL.lt
      replace hL := Box.mk hL
      replace hLat := Box.mk hLat
      replace hLlt := Box.mk hLlt
      replace hget := Box.mk hget
      replace hok := Box.mk hok
      replace hI64 := Box.mk hI64
      have hn1' : (n : Int) ≤ 30 := by omega
      have hn0' : ((n : Int) == 0) = false := by simpa using hn0
      have hnl : n ≤ l.length := by omega
      have hnw : n ≤ ws.length := by omega
      have hwB := Box.mk hwl
      replace hn := Box.mk hn
      clear hwl
      go_enter Try.func3, Try.ntmps3
      go_wp2_with fail
      refine (shown14 _).mono ?_
      rintro e w1 ⟨rfl, hb1⟩
      go_wp2_with fail
      have hO : OwnI (w1.alloc (.cells #[] 2)) w1.heap.size (.slice (some ⟨w1.heap.size, 0, none⟩) 0 0) (ws.take 0) := OwnI.empty w1 w1.heap.size w1.heap.size rfl (Nat.le_refl _)
      have hB : Below w1.heap.size w1 (w1.alloc (.cells #[] 2)) := (Below.refl _ _).alloc (Nat.le_refl _) _
      go_loopw [5, 6, 7] (fun v sv i wr => Below w1.heap.size w1 wr ∧ ∃ j : Nat, j ≤ n ∧ i = .int .i64 j ∧ ∃ s : Nat, sv = .int .i64 s ∧ (ws.take j).sum = s ∧ ∃ g c', v = .slice (some ⟨g, 0, none⟩) j c' ∧ OwnI wr w1.heap.size (.slice (some ⟨g, 0, none⟩) j c') (ws.take j)) (fun _ _ i _ => n - (intOf i).toNat)
      case atStart => exact ⟨hB, 0, Nat.zero_le _, rfl, 0, rfl, by simp, _, _, rfl, hO⟩
      case round =>
        obtain ⟨hbr, j, hj, rfl, s, rfl, hs, g, c', rfl, hown⟩ := hrel
        have hsz := hbr.size
        by_cases hlt : j < n
        · have hlt' : (j : Int) < (n : Int) := by omega
          obtain ⟨x, hx⟩ : ∃ x, l[j]? = some x := ⟨_, List.getElem?_eq_getElem (by omega)⟩
          have hx256 := hLlt.out x (List.mem_of_getElem? hx)
          obtain ⟨bk, o, rfl, hbk, hc⟩ := hLat.out j x hx
          have hgx := hget.out j x hx
          have hW1 := hb1.trans (hbr.mono hb1.size)
          have hc' : wr.cell? ⟨bk, o + j, none⟩ = some (.int .u8 x) := (hW1.cell (p := ⟨bk, o + j, none⟩) hbk).trans hc
          have hbs : bk < wr.heap.size := Nat.lt_of_lt_of_le hbk hW1.size
          have hss : (ws.take (j + 1)).sum = ((s + (x % 9 + 1) : Nat) : Int) := by rw [take_sum_succ hgx, hs]; omega
          have hsb : (s : Int) ≤ 100000 := by
            rw [← hs]
            have := take_sum_mono hok.out (show j ≤ ws.length by omega)
            rw [List.take_length, hSd] at this
            omega
          have hxb : (x : Int) < 256 := by omega
          have htl : (ws.take j).length = j := by rw [List.length_take]; omega
          have hts : ws.take (j + 1) = ws.take j ++ [(x : Int) % 9 + 1] := by rw [List.take_add_one, hgx]; rfl
          replace hs := Box.mk hs
          replace hx := Box.mk hx
          replace hgx := Box.mk hgx
          replace hc := Box.mk hc
          replace hss := Box.mk hss
          replace hx256 := Box.mk hx256
          replace hW1 := Box.mk hW1
          go_wp2_with fail
          obtain ⟨g', c'', w', hap, hown', hb', hs'⟩ := app_i64 (ty := 25) hown hsz ((x : Int) % 9 + 1) (by rw [htl]; omega)
          rw [htl] at hap hown'
          rw [← hts] at hown'
          rw [hap]
          have hc2 : w'.cell? ⟨bk, o + j, none⟩ = some (.int .u8 x) := (hb'.cell (p := ⟨bk, o + j, none⟩) (by show bk < _; have := hb1.size; omega)).trans hc'
          have hbs' : bk < w'.heap.size := by omega
          replace htl := Box.mk htl
          replace hts := Box.mk hts
          replace hap := Box.mk hap
          clear hc'
          go_wp2
          go_roundw
          case rel => exact ⟨hbr.trans hb', j + 1, by omega, by go_num, s + (x % 9 + 1), by first | rfl | (congr 1; omega), hss.out, g', c'', rfl, hown'⟩
          case measure => simp [intOf]; omega
        · obtain rfl : j = n := by omega
          have hge : ¬ (j : Int) < (j : Int) := by omega
          have hwl := hwB.out
          rw [List.take_of_length_le (by omega)] at hs hown
          obtain rfl : s = S := by rw [hSd] at hs; omega
          have hIL : IL wr (some ⟨g, 0, none⟩) j c' ws := hown.il hI64.out
          have hW1 := Box.mk (hb1.trans (hbr.mono hb1.size))
          have hz0 := cntL_zero hok.out
          rw [hwl] at hz0
          have hjj : (j : Int) ≤ 2000000 := by omega
          have hs0 : (1 : Int) ≤ s := by omega
          clear hO hB hwl
          replace hs := Box.mk hs
          replace hSd := Box.mk hSd
          replace hS := Box.mk hS
          replace hown := Box.mk hown
          replace hIL := Box.mk hIL
          replace hz0 := Box.mk hz0
          go_wp2_with fail
          have hM : (wr.alloc (.cells (rows iC (List.replicate j 0)).toArray 2)).heap[wr.heap.size]? = some (.cells (rows iC (cntL ws ((0 : Nat) : Int))).toArray 2 (0, 0)) := by
            rw [show cntL ws ((0 : Nat) : Int) = List.replicate j 0 from hz0.out]; exact heap_alloc_new wr _
          have hbM : Below W.heap.size W (wr.alloc (.cells (rows iC (List.replicate j 0)).toArray 2)) := hW1.out.alloc hW1.out.size _
          have hILM := Box.mk (hIL.out.below ((Below.refl _ _).alloc (Nat.le_refl _) (.cells (rows iC (List.replicate j 0)).toArray 2)))
          generalize wr.alloc (.cells (rows iC (List.replicate j 0)).toArray 2) = wm at *
          have hgm : g < wr.heap.size := hown.out.row.2.2.1
          have hWm : W.heap.size ≤ wr.heap.size := hW1.out.size
          obtain ⟨mb, hmb⟩ : ∃ b, wr.heap.size = b := ⟨_, rfl⟩
          rw [hmb] at hM hgm hWm
          rw [hmb]
          clear hbr hsz hb1 hown hIL hW1 hmb
          replace hM := Box.mk hM
          go_loopw [9] (fun x wr => Below mb wm wr ∧ ∃ i : Nat, i ≤ s ∧ x = .int .i64 i ∧ wr.heap[mb]? = some (.cells (rows iC (cntL ws i)).toArray 2 (0, 0))) (fun x _ => s - (intOf x).toNat)
          case atStart => exact ⟨Below.refl _ _, 0, Nat.zero_le _, rfl, hM.out⟩
          case round =>
            clear hM
            obtain ⟨hbr, i, hi, rfl, hM⟩ := hrel
            have hILr := hILM.out.of hbr hgm
            have hml := (Array.getElem?_eq_some_iff.1 hM).1
            by_cases hlt2 : i < s
            · have hlt2' : (i : Int) < (s : Int) := by omega
              have hp := fun w1 h => costPick_any (some ⟨g, 0, none⟩) j c' ws i (by omega) w1 h
              rw [show pickV ws i = (((pickI ws i : Nat) : Int), true) from by rw [pickV_ok hok.out (by have := hwB.out; omega) hwn, hSd.out, Int.emod_eq_of_lt (by omega) hlt2']] at hp
              unfold val2 at hp
              obtain ⟨q1, q2⟩ := cntL_step hok.out (show (0 : Int) ≤ i by omega) (by rw [hSd.out]; exact hlt2')
              have hkl := (pickI_spec hok.out (show (0 : Int) ≤ i by omega) (by rw [hSd.out]; exact hlt2')).1
              have hcr := cntI_range hok.out i (pickI ws i)
              generalize cntI ws i (pickI ws i) = cv at *
              generalize pickI ws i = k at *
              have hk1 : (k : Int) < (j : Int) := by have := hwB.out; omega
              have hpu := Box.mk hp
              have h0j : ¬ (k : Int) < 0 := by omega
              replace hp := Box.mk hp
              replace q2 := Box.mk q2
              replace q1 := Box.mk q1
              replace hM := Box.mk hM
              replace hbr := Box.mk hbr
              replace hILr := Box.mk hILr
              replace hkl := Box.mk hkl
              go_wp2_with fail
              refine (hp.out _ hILr.out).mono ?_
              rintro e w2 ⟨rfl, hb2⟩
              have hM2 := keepBlock hb2 hM.out
              have c1 := nI_cell hM2 q1.out
              have f1 : w2.frozen? ⟨mb, k, none⟩ = false := frozen_of_row _ _ _ _ _ hM2
              have hst := heap_setCell_nI hM2 k (cv + 1)
              rw [q2.out] at hst
              have hB2 : Below mb wm w2 := hbr.out.trans (hb2.mono (by omega))
              have hcw : wrap64 (cv + 1) = cv + 1 := IntWalk.wrap64_in _ ⟨by omega, by omega⟩
              replace hst := Box.mk hst
              replace hM2 := Box.mk hM2
              clear hb2
              go_wp2_with fail
              exact ⟨⟨hB2.setCell (p := ⟨mb, k, none⟩) (Nat.le_refl _) _, i + 1, by omega, by go_num, hst.out⟩, by simp [intOf]; omega⟩
            · obtain rfl : i = s := by omega
              have hge2 : ¬ (i : Int) < (i : Int) := by omega
              rw [show cntL ws i = ws from by rw [← hSd.out]; exact cntL_all hok.out] at hM
              have hWr : Below W.heap.size W wr := hbM.trans (hbr.mono hWm)
              replace hM := Box.mk hM
              replace hWr := Box.mk hWr
              replace hILr := Box.mk hILr
              clear hbr hbM hILM
              go_wp2_with fail
              obtain ⟨wv, hwv⟩ : ∃ wv, wr = wv := ⟨_, rfl⟩
              rw [hwv] at hM hWr hILr hml ⊢
              replace hwv := Box.mk hwv
              go_loopw [12] (fun x wr => Since wv wr ∧ ∃ t : Nat, t ≤ j ∧ x = .int .i64 t) (fun x _ => j - (intOf x).toNat)
              case atStart => exact ⟨Below.refl _ _, 0, Nat.zero_le _, rfl⟩
              case round =>
                obtain ⟨hsi, t, ht, rfl⟩ := hrel
                replace hsi : Below wv.heap.size wv wr := hsi
                by_cases hlt3 : t < j
                · have hlt3' : (t : Int) < (j : Int) := by omega
                  obtain ⟨x, hx⟩ : ∃ x, ws[t]? = some x := ⟨_, List.getElem?_eq_getElem (by omega)⟩
                  have ca := nI_cell hM.out hx
                  obtain ⟨b2, o2, e2, hb2, cb⟩ := hILr.out.at hx
                  injection e2 with e2
                  injection e2 with e21 e22
                  subst e21 e22
                  replace ca := (hsi.cell (p := ⟨mb, t, none⟩) hml).trans ca
                  replace cb := (hsi.cell (p := ⟨g, 0 + t, none⟩) hb2).trans cb
                  rw [Nat.zero_add] at cb
                  have z1 : mb < wr.heap.size := Nat.lt_of_lt_of_le hml hsi.size
                  have z2 : g < wr.heap.size := Nat.lt_of_lt_of_le hb2 hsi.size
                  replace hx := Box.mk hx
                  replace hsi := Box.mk hsi
                  go_wp2_with fail
                  (refine region_since (by kernel_rfl) (by kernel_rfl) ?_)
                  repeat (first
                    | (refine wpQuiet_goff rfl rfl rfl rfl ?_; simp only [Act.put, List.setIfInBounds_toArray, List.set_cons_succ, List.set_cons_zero])
                    | (first
                         | refine wpQuiet_free rfl ?_
                         | refine wpQuiet_gon rfl rfl rfl rfl ?_
                       apply Exists.intro
                       refine ⟨fun w' hw' => ?_, ?_⟩
                       · (obtain ⟨hc', hr', hs'⟩ := since_facts hw'
                          unfold Oper.quietAt
                          go_simp
                          try go_bits
                          first
                            | exact quietUpon_value rfl
                            | exact rfl
                            | (apply quietUpon_enter
                               first
                               | fail))
                       simp only [Act.put, List.setIfInBounds_toArray, List.set_cons_succ, List.set_cons_zero]))
                  first
                    | refine wpQuiet_nil ?_
                    | fail "QUIET stopped"
                  intro wq hwq'
                  have hq : Since wv wq := Below.of hwq' hsi.out.size hsi.out
                  clear hwq'
                  replace hq := Box.mk hq
                  go_wp2
                  go_roundw
                  case rel => exact ⟨hq.out, t + 1, by omega, by go_num⟩
                  case measure => simp [intOf]; omega
                · obtain rfl : t = j := by omega
                  have hge3 : ¬ (t : Int) < (t : Int) := by omega
                  obtain ⟨D, hD⟩ : ∃ D : Nat, (draw : Int) % i = D := ⟨((draw : Int) % i).toNat, by have := Int.emod_nonneg (draw : Int) (show (i : Int) ≠ 0 by omega); omega⟩
                  have hD1 : (D : Int) < i := by rw [← hD]; exact Int.emod_lt_of_pos _ (by omega)
                  have hlw : ws.length ≤ 1000 := by have := hwB.out; omega
                  have p1 := fun w1 h => costPick_any (some ⟨g, 0, none⟩) t c' ws draw hdr w1 h
                  have p2 := fun w1 h => costPick_any (some ⟨g, 0, none⟩) t c' ws D (by omega) w1 h
                  have p3 := fun w1 h => costSum_any (some ⟨g, 0, none⟩) t c' ws w1 h
                  rw [show pickV ws draw = (((pickI ws D : Nat) : Int), true) from by rw [pickV_ok hok.out hlw hwn, hSd.out, hD]] at p1
                  rw [show pickV ws D = (((pickI ws D : Nat) : Int), true) from by rw [pickV_ok hok.out hlw hwn, hSd.out, Int.emod_eq_of_lt (by omega) hD1]] at p2
                  rw [show sumV ws = ((i : Int), true) from by rw [sumV_ok hok.out hlw, hSd.out]] at p3
                  unfold val2 at p1 p2 p3
                  generalize pickI ws D = K at *
                  have hI3 := Box.mk (hILr.out.below hsi)
                  have hB3 := Box.mk (hWr.out.trans (hsi.mono hWr.out.size))
                  replace p1 := Box.mk p1
                  replace p2 := Box.mk p2
                  replace p3 := Box.mk p3
                  replace hsi := Box.mk hsi
                  go_wp2_with fail
                  refine (p1.out _ hI3.out).mono ?_
                  rintro e w3 ⟨rfl, hb3⟩
                  go_wp2_with fail
                  refine (p2.out _ (hI3.out.below hb3)).mono ?_
                  rintro e w4 ⟨rfl, hb4⟩
                  go_wp2_with fail
                  refine (p3.out _ ((hI3.out.below hb3).below hb4)).mono ?_
                  rintro e w5 ⟨rfl, hb5⟩
                  have hfin := Box.mk ((((⟨hB3.out⟩ : SinceP W wr).next hb3).next hb4).next hb5)
                  go_wp2
                  go_ret
                  exact gives_bool rfl hfin.out.out

end Go.Proofs.Ytahkiabpjfcfdaa
