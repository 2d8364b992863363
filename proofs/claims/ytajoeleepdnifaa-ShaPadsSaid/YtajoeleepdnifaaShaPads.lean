/- Layer 1: what any bytes are filled up to, and which numbers they are, is the document's. -/
import Derived.Test.YtajoeleepdnifaaShaRef3
namespace Go.Proofs.Ytajoeleepdnifaa
open Go.RowKit
set_option linter.unusedVariables false
set_option linter.unusedSimpArgs false
set_option maxRecDepth 100000
attribute [local irreducible] Int.lt Int.le

set_option maxHeartbeats 2000000 in
theorem shaPads_walk (s : List UInt8) (W : World) : Calls Try.prog 9 #[.string (sB s)] W (LawEnd W) := by
  by_cases hs : (2048 : Int) < s.length
  · go_enter Try.func9, Try.ntmps9
    go_wp2_with fail
    refine (shown01 _).mono ?_
    rintro e w1 ⟨rfl, hb1⟩
    go_wp2
    go_ret
    exact gives_bool rfl hb1
  · have hs2 : s.length ≤ 1000000 := by omega
    have hwl := wordsL_length s
    obtain ⟨A, hA⟩ : ∃ A, wordsL s = A := ⟨_, rfl⟩
    obtain ⟨n, hn⟩ : ∃ n, s.length / 4 = n := ⟨_, rfl⟩
    have wa := fun w => words_any s w hs2
    have wb := fun w => refWords_any s w hs2
    rw [hn] at wa wb hwl
    rw [hA] at wa wb hwl
    replace hs2 := Box.mk hs2
    have hnb : (n : Int) ≤ 2048 := by omega
    replace hA := Box.mk hA
    replace hn := Box.mk hn
    replace wa := Box.mk wa
    replace wb := Box.mk wb
    go_enter Try.func9, Try.ntmps9
    go_wp2_with fail
    refine (shown01 _).mono ?_
    rintro e w1 ⟨rfl, hb1⟩
    go_wp2_with fail
    refine (wa.out w1).mono ?_
    rintro e w2 ⟨rfl, ra, hb2⟩
    go_wp2_with fail
    refine (wb.out w2).mono ?_
    rintro e w3 ⟨g, c, rfl, hown, hb3⟩
    have ra3 := keepBlock hb3 ra
    have hW3 : Below W.heap.size W w3 := Below.of hb3 (by have := hb1.size; have := hb2.size; omega) (Below.of hb2 hb1.size hb1)
    replace ra3 := Box.mk ra3
    replace hW3 := Box.mk hW3
    replace hown := Box.mk hown
    obtain ⟨ga, hga⟩ : ∃ x, w1.heap.size = x := ⟨_, rfl⟩
    rw [hga] at ra3
    rw [hga]
    clear ra hb1 hb2 hb3 hga
    go_wp2_with fail
    refine (pad_any s w3 hs2.out).mono ?_
    rintro e w4 ⟨rfl, hb4⟩
    go_wp2_with fail
    refine (refPad_any s w4 hs2.out).mono ?_
    rintro e w5 ⟨rfl, hb5⟩
    have ra5 := keepBlock hb5 (keepBlock hb4 ra3.out)
    have ho5 := (hown.out.below hb4).below hb5
    have hW5 : Below W.heap.size W w5 := Below.of hb5 (by have := hb4.size; have := hW3.out.size; omega) (Below.of hb4 hW3.out.size hW3.out)
    have la := (Array.getElem?_eq_some_iff.1 ra5).1
    have lg := ho5.row.2.2.1
    clear ra3 hown hW3 hb4 hb5
    replace ra5 := Box.mk ra5
    replace ho5 := Box.mk ho5
    replace hW5 := Box.mk hW5
    generalize padL s = P at *
    go_wp2_with fail
    go_loopw [5] (fun i wr => Since w5 wr ∧ ∃ j : Nat, j ≤ n ∧ i = .int .i64 j) (fun i _ => n - (intOf i).toNat)
    case atStart => exact ⟨Below.refl _ _, 0, by omega, rfl⟩
    case round =>
      obtain ⟨hsi, j, hj, rfl⟩ := hrel
      by_cases hlt : j < n
      · have hlt' : (j : Int) < (n : Int) := by omega
        obtain ⟨x, hx⟩ : ∃ x, A[j]? = some x := ⟨_, List.getElem?_eq_getElem (by omega)⟩
        have ca := uC_cell ra5.out hx
        have cb := ho5.out.cell (uC_get hx)
        replace hsi : Below w5.heap.size w5 wr := hsi
        have sz := hsi.size
        have z1 : ga < wr.heap.size := by omega
        have z2 : g < wr.heap.size := by omega
        replace ca := (hsi.cell (p := ⟨ga, j, none⟩) la).trans ca
        replace cb := (hsi.cell (p := ⟨g, j, none⟩) lg).trans cb
        replace hx := Box.mk hx
        replace hsi := Box.mk hsi
        clear sz
        go_wp2_with fail
        (refine region_since (by kernel_rfl) (by kernel_rfl) ?_)
        repeat (first
          | (refine wpQuiet_goff rfl rfl rfl rfl ?_; simp only [Act.put, List.setIfInBounds_toArray, List.set_cons_succ, List.set_cons_zero])
          | (first
               | refine wpQuiet_free rfl ?_
               | refine wpQuiet_gon rfl rfl rfl rfl ?_
             apply Exists.intro
             refine ⟨fun w' hw' => ?_, ?_⟩
             · (obtain ⟨hc', hr', hs'⟩ := since_facts hw'
                unfold Oper.quietAt
                go_simp
                try go_bits
                first
                  | exact quietUpon_value rfl
                  | exact rfl
                  | (apply quietUpon_enter
                     first
                     | fail))
             simp only [Act.put, List.setIfInBounds_toArray, List.set_cons_succ, List.set_cons_zero]))
        first
          | refine wpQuiet_nil ?_
          | fail "QUIET stopped"
        intro wq hwq'
        have hq : Since w5 wq := Below.of hwq' hsi.out.size hsi.out
        clear hwq'
        replace hq := Box.mk hq
        go_wp2
        go_roundw
        case rel => exact ⟨hq.out, j + 1, by omega, by go_num⟩
        case measure => simp [intOf]; omega
      · obtain rfl : j = n := by omega
        have hge : ¬ (j : Int) < (j : Int) := by omega
        replace hsi := Box.mk hsi
        go_wp2
        go_ret
        exact gives_bool rfl (Below.of hsi.out hW5.out.size hW5.out)

end Go.Proofs.Ytajoeleepdnifaa
