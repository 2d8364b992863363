/- Layer 1: what is filled up is as many blocks as there is room for it and nine bytes more; a block ends by how many bits it was. -/
import Derived.Test.YtajoeleepdnifaaShaRef
namespace Go.Proofs.Ytajoeleepdnifaa
open Go.RowKit
set_option linter.unusedVariables false
set_option linter.unusedSimpArgs false
set_option maxRecDepth 100000

theorem padL_facts (s : List UInt8) : (padL s)[s.length]? = some 128 ∧ (padL s)[(padL s).length - 1]? = some (UInt8.ofNat (s.length * 8)) ∧ (padL s)[(padL s).length - 2]? = some (UInt8.ofNat (s.length * 8 / 2 ^ 8)) := by
  obtain ⟨A, hA⟩ : ∃ A, padL s = A ++ be8 (s.length * 8) := ⟨_, padL_split s⟩
  refine ⟨?_, ?_, ?_⟩
  · unfold padL
    rw [List.getElem?_append_right (Nat.le_refl _), Nat.sub_self]; rfl
  · rw [hA, List.length_append, be8_length, List.getElem?_append_right (by omega)]
    have e : A.length + 8 - 1 - A.length = 7 := by omega
    rw [e]; rfl
  · rw [hA, List.length_append, be8_length, List.getElem?_append_right (by omega)]
    have e : A.length + 8 - 2 - A.length = 6 := by omega
    rw [e]; rfl

attribute [local irreducible] Int.lt Int.le
attribute [local go_sem] sB_append le_length
attribute [local go_sem ↓] append_u8

set_option maxHeartbeats 2000000 in
theorem shaBlocks_walk (m : Nat) (c : UInt8) (W : World) (hm : m < 65536) : Calls Try.prog 11 #[.int .u16 m, .int .u8 c.toNat] W (LawEnd W) := by
  obtain ⟨k, hk⟩ : ∃ k, m % 600 = k := ⟨_, rfl⟩
  have hk1 : (m : Int) % 600 = k := by omega
  have hk6 : (k : Int) < 600 := by omega
  replace hk := Box.mk hk
  go_enter Try.func11, Try.ntmps11
  go_wp2_with fail
  have hO : OwnB (W.alloc (.cells #[] 5)) W.heap.size (.slice (some ⟨W.heap.size, 0, none⟩) 0 0) (List.replicate 0 c) := by
    show OwnV _ _ _ _ (bC [])
    rw [bC_nil]
    exact OwnV.empty W W.heap.size 5 W.heap.size rfl (Nat.le_refl _)
  have hB : Below W.heap.size W (W.alloc (.cells #[] 5)) := (Below.refl _ _).alloc (Nat.le_refl _) _
  rw [hk1]
  go_loopw [6, 7] (fun v i wr => Below W.heap.size W wr ∧ ∃ j : Nat, j ≤ k ∧ i = .int .i64 j ∧ ∃ g c', v = .slice (some ⟨g, 0, none⟩) j c' ∧ OwnB wr W.heap.size (.slice (some ⟨g, 0, none⟩) j c') (List.replicate j c)) (fun _ i _ => k - (intOf i).toNat)
  case atStart => exact ⟨hB, 0, Nat.zero_le _, rfl, _, _, rfl, hO⟩
  case round =>
    obtain ⟨hbr, j, hj, rfl, g, c', rfl, hown⟩ := hrel
    have hsz := hbr.size
    by_cases hlt : j < k
    · have hlt' : (j : Int) < (k : Int) := by omega
      go_wp2_with fail
      obtain ⟨g', c'', w', hap, hown', hb', hs'⟩ := app_u8 (ty := 47) hown hsz c _ rfl (by rw [List.length_replicate]; omega)
      rw [List.length_replicate] at hap hown'
      rw [← List.replicate_succ'] at hown'
      rw [hap]
      go_wp2
      go_roundw
      case rel => exact ⟨hbr.trans hb', j + 1, by omega, by go_num, g', c'', rfl, hown'⟩
      case measure => simp [intOf]; omega
    · obtain rfl : j = k := by omega
      have hge : ¬ (j : Int) < (j : Int) := by omega
      go_wp2_with fail
      rw [run_string_own hown]
      go_wp2_with fail
      refine (pad_any (List.replicate j c) _ (by rw [List.length_replicate]; omega)).mono ?_
      rintro e w1 ⟨rfl, hb1⟩
      have hW1 := hbr.trans (hb1.mono hsz)
      obtain ⟨p1, p2, p3⟩ := padL_facts (List.replicate j c)
      have hl := padL_length (List.replicate j c)
      rw [List.length_replicate] at p1 p2 p3 hl
      generalize padL (List.replicate j c) = P at *
      obtain ⟨q, hq⟩ : ∃ q, (j + 8) / 64 = q := ⟨_, rfl⟩
      have hq1 : ((j : Int) + 8) / 64 = q := by omega
      obtain ⟨L, hL⟩ : ∃ L, P.length = L := ⟨_, rfl⟩
      rw [hL] at p2 p3 hl
      have hL1 : 64 * ((q : Int) + 1) = (L : Int) := by omega
      obtain ⟨i1, hi1⟩ : ∃ i1, L - 1 = i1 := ⟨_, rfl⟩
      obtain ⟨i2, hi2⟩ : ∃ i2, L - 2 = i2 := ⟨_, rfl⟩
      rw [hi1] at p2
      rw [hi2] at p3
      have l1 : (L : Int) - 1 = i1 := by omega
      have l2 : (L : Int) - 2 = i2 := by omega
      have g0 : j < P.length := (List.getElem?_eq_some_iff.1 p1).1
      have g1 : i1 < P.length := (List.getElem?_eq_some_iff.1 p2).1
      have g2 : i2 < P.length := (List.getElem?_eq_some_iff.1 p3).1
      have x0 : ∀ h, (sB P)[j]'h = 128 := fun h => (sB_get g0).trans (List.getElem?_eq_some_iff.1 p1).2
      obtain ⟨v1, hv1⟩ : ∃ v, UInt8.ofNat (j * 8) = v := ⟨_, rfl⟩
      obtain ⟨v2, hv2⟩ : ∃ v, UInt8.ofNat (j * 8 / 2 ^ 8) = v := ⟨_, rfl⟩
      rw [hv1] at p2
      rw [hv2] at p3
      have n1 : (v1.toNat : Int) = 8 * (j : Int) % 256 := by rw [← hv1]; simp; omega
      have n2 : (v2.toNat : Int) = 8 * (j : Int) / 256 % 256 := by rw [← hv2]; simp; omega
      replace hv1 := Box.mk hv1
      replace hv2 := Box.mk hv2
      have x1 : ∀ h, (sB P)[i1]'h = v1 := fun h => (sB_get g1).trans (List.getElem?_eq_some_iff.1 p2).2
      have x2 : ∀ h, (sB P)[i2]'h = v2 := fun h => (sB_get g2).trans (List.getElem?_eq_some_iff.1 p3).2
      clear p1 p2 p3 hown hb1
      rw [hL] at g0 g1 g2
      have g0' : (j : Int) < L := by omega
      have g1' : (i1 : Int) < L := by omega
      have g2' : (i2 : Int) < L := by omega
      replace hq := Box.mk hq
      replace hl := Box.mk hl
      replace hi1 := Box.mk hi1
      replace hi2 := Box.mk hi2
      go_wp2_with fail
      refine (shown01 _).mono ?_
      rintro e w2 ⟨rfl, hb2⟩
      go_wp2
      go_ret
      exact gives_bool rfl (Below.of hb2 hW1.size hW1)

end Go.Proofs.Ytajoeleepdnifaa
