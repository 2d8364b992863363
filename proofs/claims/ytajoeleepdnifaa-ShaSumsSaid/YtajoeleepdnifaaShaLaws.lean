/- Layer 1: shown; what is filled up is apart. -/
import Derived.Test.YtajoeleepdnifaaSha9
import Derived.Test.YtajoeleepdnifaaLawEnd
namespace Go.Proofs.Ytajoeleepdnifaa
open Go.RowKit Go.Shelf
set_option linter.unusedVariables false
set_option linter.unusedSimpArgs false
set_option maxRecDepth 100000

theorem sB_whole (s : ByteArray) : sB s.data.toList = s := by
  apply ByteArray.ext
  simp [sB]
theorem be8_inj {n m : Nat} (hn : n < 65536) (hm : m < 65536) (h : be8 n = be8 m) : n = m := by
  have e6 : UInt8.ofNat (n / 2 ^ 8) = UInt8.ofNat (m / 2 ^ 8) := by
    have := congrArg (fun l : List UInt8 => l.getD 6 0) h; exact this
  have e7 : UInt8.ofNat n = UInt8.ofNat m := by
    have := congrArg (fun l : List UInt8 => l.getD 7 0) h; exact this
  have f6 := congrArg UInt8.toNat e6
  have f7 := congrArg UInt8.toNat e7
  simp only [UInt8.toNat_ofNat'] at f6 f7
  omega
theorem be8_length (n : Nat) : (be8 n).length = 8 := rfl
theorem padL_split (s : List UInt8) : padL s = (s ++ 128 :: List.replicate ((119 - s.length % 64) % 64) 0) ++ be8 (s.length * 8) := by
  unfold padL; simp
theorem padL_take (s : List UInt8) : (padL s).take s.length = s := by
  unfold padL; rw [List.take_left']; rfl
theorem padL_inj {s t : List UInt8} (hs : s.length ≤ 2048) (ht : t.length ≤ 2048) (h : padL s = padL t) : s = t := by
  have hl : s.length = t.length := by
    have h' := h
    rw [padL_split, padL_split] at h'
    have h8 := List.append_inj_right' h' rfl
    have := be8_inj (by omega) (by omega) h8
    omega
  have h1 := padL_take s
  rw [h, hl, padL_take] at h1
  exact h1.symm

attribute [local irreducible] Int.lt Int.le
attribute [local go_sem] rowOf_drew rowOf_alloc_old rowOf_alloc_new canPut_drew canPut_alloc_old canPut_alloc_new setCells_alloc_new
attribute [local go_sem ↓] load_key store_key alloc_key

theorem keyC_at {k : Key} {i : Nat} {x : UInt8} (h : k.val[i]? = some x) (hi : i < (keyC k).length) : (keyC k)[i] = .int .u8 x.toNat := by
  have h' := bC_get h
  rw [← keyC_bC] at h'
  exact (List.getElem?_eq_some_iff.1 h').2
set_option maxHeartbeats 1000000 in
theorem shown01 (W : World) : Calls Try.prog 28 #[] W (Gives (.bool true) W) := by
  obtain ⟨s0, s1, s2⟩ := sum0_is
  have hv : (sumK []).val = sumL [] := rfl
  have hlen := sumL_length []
  have k0 : ∀ h, (keyC (sumK []))[0]'h = .int .u8 227 := fun h => keyC_at (x := 0xe3) (by rw [hv]; rw [List.getD_eq_getElem?_getD, List.getElem?_eq_getElem (by omega)] at s0; rw [List.getElem?_eq_getElem (by omega)]; exact congrArg some s0) h
  have k1 : ∀ h, (keyC (sumK []))[1]'h = .int .u8 176 := fun h => keyC_at (x := 0xb0) (by rw [hv]; rw [List.getD_eq_getElem?_getD, List.getElem?_eq_getElem (by omega)] at s1; rw [List.getElem?_eq_getElem (by omega)]; exact congrArg some s1) h
  have k2 : ∀ h, (keyC (sumK []))[31]'h = .int .u8 85 := fun h => keyC_at (x := 0x55) (by rw [hv]; rw [List.getD_eq_getElem?_getD, List.getElem?_eq_getElem (by omega)] at s2; rw [List.getElem?_eq_getElem (by omega)]; exact congrArg some s2) h
  clear s0 s1 s2 hv hlen
  have hsum := fun w => sum_any [] w (by simp)
  generalize sumK [] = k at *
  replace hsum := Box.mk hsum
  go_enter Try.func28, Try.ntmps28
  go_wp2_with fail
  refine (hsum.out _).mono ?_
  rintro e w1 ⟨rfl, hb1⟩
  have hB : Below W.heap.size W (w1.alloc (.cells (keyC k).toArray 35)) := hb1.alloc hb1.size _
  go_wp2
  go_ret
  exact gives_bool rfl hB

set_option maxHeartbeats 2000000 in
theorem shaApart_walk (s t : List UInt8) (W : World) : Calls Try.prog 10 #[.string (sB s), .string (sB t)] W (LawEnd W) := by
  by_cases hs : (2048 : Int) < s.length
  · go_enter Try.func10, Try.ntmps10
    go_wp2_with fail
    refine (shown01 _).mono ?_
    rintro e w1 ⟨rfl, hb1⟩
    go_wp2
    go_ret
    exact gives_bool rfl hb1
  · by_cases ht : (2048 : Int) < t.length
    · go_enter Try.func10, Try.ntmps10
      go_wp2_with fail
      refine (shown01 _).mono ?_
      rintro e w1 ⟨rfl, hb1⟩
      go_wp2
      go_ret
      exact gives_bool rfl hb1
    · have hb2 : s.length ≤ 2048 ∧ t.length ≤ 2048 := by omega
      replace hb2 := Box.mk hb2
      go_enter Try.func10, Try.ntmps10
      go_wp2_with fail
      refine (shown01 _).mono ?_
      rintro e w1 ⟨rfl, hb1⟩
      go_wp2_with fail
      refine (pad_any s _ (by have := hb2.out; omega)).mono ?_
      rintro e w2 ⟨rfl, hbw2⟩
      go_wp2_with fail
      refine (pad_any t _ (by have := hb2.out; omega)).mono ?_
      rintro e w3 ⟨rfl, hbw3⟩
      have hB : Below W.heap.size W w3 := Below.of hbw3 (by have := hb1.size; have := hbw2.size; omega) (Below.of hbw2 hb1.size hb1)
      have hm := padL_mod s
      have hl := padL_length s
      have htk := padL_take s
      have hinj := fun h => padL_inj hb2.out.1 hb2.out.2 h
      have hxx : (sB (padL s)).extract 0 s.length = sB s := by rw [sB_extract, List.drop_zero, htk]
      have hpq : (padL s == padL t) = (s == t) := by
        by_cases e : s = t
        · subst e; simp
        · rw [beq_eq_false_iff_ne.2 (fun h => e (hinj h)), beq_eq_false_iff_ne.2 e]
      generalize padL s = P at *
      generalize padL t = Q at *
      have g1 : (P.length : Int) % 64 = 0 := by omega
      have g2 : (s.length : Int) + 9 ≤ P.length := by omega
      have g3 : (P.length : Int) ≤ s.length + 72 := by omega
      clear hm hl htk hinj hbw2 hbw3 hb1
      replace hB := Box.mk hB
      go_wp2
      go_ret
      exact gives_bool (by simp) hB.out

end Go.Proofs.Ytajoeleepdnifaa
