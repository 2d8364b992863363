/- Layer 14: a greater draw below the sum never picks an earlier place. -/
import Derived.Test.YtahkiabpjfcfdaaU8s
import Derived.Test.YtahkiabpjfcfdaaSince
namespace Go.Proofs.Ytahkiabpjfcfdaa
open Go.RowKit
set_option linter.unusedVariables false
set_option linter.unusedSimpArgs false
set_option maxRecDepth 100000
attribute [local irreducible] Int.lt Int.le
attribute [local go_sem ↓] append_i64
set_option maxHeartbeats 4000000 in
theorem costOrder_walk (ad : Option Addr) (n c : Nat) (l : List Nat) (a b : Nat) (ha : a < 65536) (hb : b < 65536) (W : World) (hL : BN W ad n c l) : Calls Try.prog 5 #[.slice ad n c, .int .u16 a, .int .u16 b] W (LawEnd W) := by
  have hn : n = l.length := hL.len
  by_cases hn1 : (60 : Int) < n
  · replace hL := Box.mk hL
    replace hn := Box.mk hn
    go_enter Try.func5, Try.ntmps5
    go_wp2_with fail
    refine (shown14 _).mono ?_
    rintro e w1 ⟨rfl, hb1⟩
    go_wp2
    go_ret
    exact gives_bool rfl hb1
  · by_cases hn0 : (n : Int) = 0
    · replace hL := Box.mk hL
      replace hn := Box.mk hn
      go_enter Try.func5, Try.ntmps5
      go_wp2_with fail
      refine (shown14 _).mono ?_
      rintro e w1 ⟨rfl, hb1⟩
      go_wp2
      go_ret
      exact gives_bool rfl hb1
    · obtain ⟨ws, hws⟩ : ∃ ws : List Int, ws = l.map (fun x : Nat => (x : Int) + 1) := ⟨_, rfl⟩
      have hwl : ws.length = n := by rw [hws, List.length_map, hn]
      have hok : okW ws := by rw [hws]; exact okW_map fun x hx => by have := hL.lt x hx; omega
      have hwn : ws ≠ [] := fun e => by rw [e] at hwl; simp at hwl; omega
      have hS := okW_sum hok
      rw [hwl] at hS
      have hI64 : ∀ x ∈ ws, I64 x := fun x hx => by have := hok x hx; unfold I64; omega
      obtain ⟨S, hSd⟩ : ∃ S : Nat, ws.sum = S := ⟨ws.sum.toNat, by omega⟩
      rw [hSd] at hS
      have hSb : (S : Int) ≤ 100000 := by
        have key : ∀ (l : List Nat), (∀ x ∈ l, x < 256) → (l.map (fun x : Nat => (x : Int) + 1)).sum ≤ l.length * 256 := by
          intro l
          induction l with
          | nil => intro _; simp
          | cons x l ih => intro h; have := ih (fun y hy => h y (by simp [hy])); have := h x (by simp); rw [List.map_cons, List.sum_cons, List.length_cons]; omega
        have := key l hL.lt
        rw [← hws, hSd] at this
        omega
      have hget : ∀ (j x : Nat), l[j]? = some x → ws[j]? = some ((x : Int) + 1) := fun j x h => by rw [hws, List.getElem?_map, h]; rfl
      replace hws := Box.mk hws
      have hLat := hL.at_
      have hLlt := hL.lt
      replace hL := Box.mk hL
      replace hLat := Box.mk hLat
      replace hLlt := Box.mk hLlt
      replace hget := Box.mk hget
      replace hok := Box.mk hok
      replace hI64 := Box.mk hI64
      have hn1' : (n : Int) ≤ 60 := by omega
      have hn0' : ((n : Int) == 0) = false := by simpa using hn0
      have hnl : n ≤ l.length := by omega
      have hnw : n ≤ ws.length := by omega
      have hwB := Box.mk hwl
      replace hn := Box.mk hn
      clear hwl
      go_enter Try.func5, Try.ntmps5
      go_wp2_with fail
      refine (shown14 _).mono ?_
      rintro e w1 ⟨rfl, hb1⟩
      go_wp2_with fail
      have hO : OwnI (w1.alloc (.cells #[] 2)) w1.heap.size (.slice (some ⟨w1.heap.size, 0, none⟩) 0 0) (ws.take 0) := OwnI.empty w1 w1.heap.size w1.heap.size rfl (Nat.le_refl _)
      have hB : Below w1.heap.size w1 (w1.alloc (.cells #[] 2)) := (Below.refl _ _).alloc (Nat.le_refl _) _
      go_loopw [7, 8, 9] (fun v sv i wr => Below w1.heap.size w1 wr ∧ ∃ j : Nat, j ≤ n ∧ i = .int .i64 j ∧ ∃ s : Nat, sv = .int .u64 s ∧ (ws.take j).sum = s ∧ ∃ g c', v = .slice (some ⟨g, 0, none⟩) j c' ∧ OwnI wr w1.heap.size (.slice (some ⟨g, 0, none⟩) j c') (ws.take j)) (fun _ _ i _ => n - (intOf i).toNat)
      case atStart => exact ⟨hB, 0, Nat.zero_le _, rfl, 0, rfl, by simp, _, _, rfl, hO⟩
      case round =>
        obtain ⟨hbr, j, hj, rfl, s, rfl, hs, g, c', rfl, hown⟩ := hrel
        have hsz := hbr.size
        by_cases hlt : j < n
        · have hlt' : (j : Int) < (n : Int) := by omega
          obtain ⟨x, hx⟩ : ∃ x, l[j]? = some x := ⟨_, List.getElem?_eq_getElem (by omega)⟩
          have hx256 := hLlt.out x (List.mem_of_getElem? hx)
          obtain ⟨bk, o, rfl, hbk, hc⟩ := hLat.out j x hx
          have hgx := hget.out j x hx
          have hW1 := hb1.trans (hbr.mono hb1.size)
          have hc' : wr.cell? ⟨bk, o + j, none⟩ = some (.int .u8 x) := (hW1.cell (p := ⟨bk, o + j, none⟩) hbk).trans hc
          have hbs : bk < wr.heap.size := Nat.lt_of_lt_of_le hbk hW1.size
          have hss : (ws.take (j + 1)).sum = ((s + x + 1 : Nat) : Int) := by rw [take_sum_succ hgx, hs]; omega
          have hsb : (s : Int) ≤ 100000 := by
            rw [← hs]
            have := take_sum_mono hok.out (show j ≤ ws.length by omega)
            rw [List.take_length, hSd] at this
            omega
          have hxb : (x : Int) < 256 := by omega
          have htl : (ws.take j).length = j := by rw [List.length_take]; omega
          have hts : ws.take (j + 1) = ws.take j ++ [(x : Int) + 1] := by rw [List.take_add_one, hgx]; rfl
          replace hs := Box.mk hs
          replace hx := Box.mk hx
          replace hgx := Box.mk hgx
          replace hc := Box.mk hc
          replace hss := Box.mk hss
          replace hx256 := Box.mk hx256
          replace hW1 := Box.mk hW1
          go_wp2_with fail
          obtain ⟨g', c'', w', hap, hown', hb', hs'⟩ := app_i64 (ty := 25) hown hsz ((x : Int) + 1) (by rw [htl]; omega)
          rw [htl] at hap hown'
          rw [← hts] at hown'
          rw [hap]
          have hc2 : w'.cell? ⟨bk, o + j, none⟩ = some (.int .u8 x) := (hb'.cell (p := ⟨bk, o + j, none⟩) (by show bk < _; have := hb1.size; omega)).trans hc'
          have hbs' : bk < w'.heap.size := by omega
          replace htl := Box.mk htl
          replace hts := Box.mk hts
          replace hap := Box.mk hap
          clear hc'
          go_wp2
          go_roundw
          case rel => exact ⟨hbr.trans hb', j + 1, by omega, by go_num, s + x + 1, by first | rfl | (congr 1; omega), hss.out, g', c'', rfl, hown'⟩
          case measure => simp [intOf]; omega
        · obtain rfl : j = n := by omega
          have hge : ¬ (j : Int) < (j : Int) := by omega
          have hwl := hwB.out
          rw [List.take_of_length_le (by omega)] at hs hown
          obtain rfl : s = S := by rw [hSd] at hs; omega
          have hIL : IL wr (some ⟨g, 0, none⟩) j c' ws := hown.il hI64.out
          obtain ⟨X, hX⟩ : ∃ X : Nat, min (a : Int) b % s = X := ⟨(min (a : Int) b % s).toNat, by have := Int.emod_nonneg (min (a : Int) b) (show (s : Int) ≠ 0 by omega); omega⟩
          obtain ⟨Y, hY⟩ : ∃ Y : Nat, max (a : Int) b % s = Y := ⟨(max (a : Int) b % s).toNat, by have := Int.emod_nonneg (max (a : Int) b) (show (s : Int) ≠ 0 by omega); omega⟩
          have hX1 : (X : Int) < s := by rw [← hX]; exact Int.emod_lt_of_pos _ (by omega)
          have hY1 : (Y : Int) < s := by rw [← hY]; exact Int.emod_lt_of_pos _ (by omega)
          obtain ⟨Z, hZ⟩ : ∃ Z : Nat, max (X : Int) Y = Z := ⟨max X Y, by omega⟩
          have hXZ : X ≤ Z := by omega
          have hZ1 : (Z : Int) < s := by omega
          have hpv : ∀ dr : Nat, (dr : Int) < s → pickV ws dr = (((pickI ws dr : Nat) : Int), true) := fun dr h => by
            rw [pickV_ok hok.out (by omega) hwn, hSd, Int.emod_eq_of_lt (by omega) h]
          have p1 := costPick_any (some ⟨g, 0, none⟩) j c' ws X (by omega)
          have p2 := costPick_any (some ⟨g, 0, none⟩) j c' ws Z (by omega)
          have p3 := costPick_any (some ⟨g, 0, none⟩) j c' ws 0 (by omega)
          have p4 := costPick_any (some ⟨g, 0, none⟩) j c' ws (s - 1) (by omega)
          have hmono := pickI_mono hok.out (show (0 : Int) ≤ X by omega) (show (X : Int) ≤ Z by omega) (by rw [hSd]; exact hZ1)
          have hzero := pickI_zero hok.out
          have hlastp : pickI ws ((s : Int) - 1) = j - 1 := by rw [← hSd, pickI_last hok.out hwn, hwl]
          rw [hpv X hX1] at p1
          rw [hpv Z hZ1] at p2
          rw [hpv 0 (by omega), show ((0 : Nat) : Int) = 0 from rfl, hzero] at p3
          rw [hpv (s - 1) (by omega), show ((s - 1 : Nat) : Int) = (s : Int) - 1 from by omega, hlastp] at p4
          unfold val2 at p1 p2 p3 p4
          generalize pickI ws X = I at *
          generalize pickI ws Z = K at *
          have hIK : (I : Int) ≤ K := by omega
          have hj1 : ((j - 1 : Nat) : Int) = (j : Int) - 1 := by omega
          rw [hj1] at p4
          have hs0 : (1 : Int) ≤ s := by omega
          have hW1 := Box.mk (hb1.trans (hbr.mono hb1.size))
          replace hown := Box.mk hown
          replace hIL := Box.mk hIL
          replace p1 := Box.mk p1
          replace p2 := Box.mk p2
          replace p3 := Box.mk p3
          replace p4 := Box.mk p4
          replace hzero := Box.mk hzero
          replace hlastp := Box.mk hlastp
          replace hmono := Box.mk hmono
          replace hs := Box.mk hs
          replace hSd := Box.mk hSd
          clear hwl
          replace hS := Box.mk hS
          clear hO hB hpv hj1
          go_wp2_with fail
          refine (p1.out _ hIL.out).mono ?_
          rintro e w2 ⟨rfl, hb2⟩
          go_wp2_with fail
          refine (p2.out _ (hIL.out.below hb2)).mono ?_
          rintro e w3 ⟨rfl, hb3⟩
          go_wp2_with fail
          refine (p3.out _ ((hIL.out.below hb2).below hb3)).mono ?_
          rintro e w4 ⟨rfl, hb4⟩
          go_wp2_with fail
          refine (p4.out _ (((hIL.out.below hb2).below hb3).below hb4)).mono ?_
          rintro e w5 ⟨rfl, hb5⟩
          have hfin := Box.mk (((((⟨hW1.out⟩ : SinceP W wr).next hb2).next hb3).next hb4).next hb5)
          go_wp2
          go_ret
          exact gives_bool rfl hfin.out.out

end Go.Proofs.Ytahkiabpjfcfdaa
