/- RecentLast: the walk. -/
import Derived.Test.YtghjpbmemogioaaRecLastP
import Derived.Test.YtghjpbmemogioaaMapB
import Derived.Test.YtghjpbmemogioaaBytesN
import Derived.Carry
namespace Go.Proofs.Ytghjpbmemogioaa
open Go.RowKit
set_option linter.unusedVariables false
set_option linter.unusedSimpArgs false
set_option maxRecDepth 100000
attribute [local irreducible] Int.lt Int.le
attribute [local go_sem ↓] load_key store_key alloc_key build0_key eq_key build1_key load_it store_it alloc_it build0_it
attribute [local go_sem] rowOf_drew rowOf_alloc_old rowOf_alloc_new canPut_drew canPut_alloc_old canPut_alloc_new setCells_alloc_new

set_option maxHeartbeats 4000000 in
theorem recentLast_walk (a : Option Addr) (n c : Nat) (ids : List Nat) (g k : Nat) (hg : g ≤ 255) (hk : k ≤ 255) (W : World) (h : BN W a n c ids) :
    Calls Try.prog 10 #[.slice a n c, .int .u8 g, .int .u8 k] W (Gives (.bool true) W) := by
  have hmm := @run_makeMap Try.prog
  by_cases h100 : (100 : Int) < n
  · replace h := Box.mk h
    go_enter Try.func10, Try.ntmps10
    go_wp2_with fail
    refine (shown18 _).mono ?_
    rintro e w1 ⟨rfl, b1⟩
    go_wp2
    go_ret
    exact gives_bool rfl b1
  have hnl := h.len
  have hn100 : n ≤ 100 := by omega
  replace h := Box.mk h
  replace hnl := Box.mk hnl
  go_enter Try.func10, Try.ntmps10
  go_wp2_with fail
  refine (shown18 _).mono ?_
  rintro e w1 ⟨rfl, b1⟩
  have BW := Box.mk b1
  clear b1
  go_wp2_with fail
  go_loopw [7, 8, 9] (fun lv nv iv wr => Below W.heap.size W wr ∧ ∃ (i : Nat) (a' : Option Addr) (n' c' : Nat) (l : List ItemV), i ≤ n ∧ iv = .int .i64 i ∧ nv = .int .u64 ((g * i : Nat) : Int) ∧ lv = .slice a' n' c' ∧ IL wr a' n' c' l ∧ LastL ids g i l ∧ n' ≤ 5) (fun _ _ iv _ => n - (intOf iv).toNat)
  case atStart => exact ⟨BW.out.alloc BW.out.size _, 0, _, _, _, [], Nat.zero_le _, rfl, by simp, rfl, (Own.empty itC 33 55 w1 w1.heap.size w1.heap.size rfl (Nat.le_refl _)).sl'.2, LastL.zero _ _, Nat.zero_le _⟩
  case round =>
    obtain ⟨hb, i, a', n', c', l, hi, rfl, rfl, rfl, hL, hR, h5⟩ := hrel
    have hT1 : g * i ≤ 255 * 100 := Nat.mul_le_mul hg (by omega)
    by_cases hlt : i < n
    · have hlt' : (i : Int) < n := by omega
      obtain ⟨x, hx⟩ : ∃ x, ids[i]? = some x := ⟨_, List.getElem?_eq_getElem (by have := hnl.out; omega)⟩
      obtain ⟨b, o, hae, hbl, hcx⟩ := h.out.at_ i x hx
      have hxl := h.out.lt x (List.mem_of_getElem? hx)
      have hcw := (hb.cell (p := ⟨b, o + i, none⟩) hbl).trans hcx
      have hbw : b < wr.heap.size := Nat.lt_of_lt_of_le hbl hb.size
      have hgx : ids.getD i 0 = x := by rw [List.getD_eq_getElem?_getD, hx]; rfl
      have hnext : g * (i + 1) = g * i + g := by rw [Nat.mul_add, Nat.mul_one]
      have hput := hR.put
      rw [hgx, hnext] at hput
      obtain ⟨T, hT⟩ : ∃ T, g * i = T := ⟨_, rfl⟩
      rw [hT] at hput hT1 hnext ⊢
      have hwrp : ((T : Int) + (g : Int)) % 18446744073709551616 = ((T + g : Nat) : Int) := by omega
      have hwrp2 : ((T : Int) + (g : Int)) % 18446744073709551616 = (T : Int) + g := by omega
      have hcall := put_any a' n' c' l (key1 (UInt8.ofNat x)) ((T : Int) + (g : Int)) wr hL (by omega)
      rw [Int.natCast_add] at hput
      replace hput : LastL ids g (i + 1) (putL l (key1 (UInt8.ofNat x)) ((T : Int) + (g : Int))) := hput
      have hpl := putL_length l (key1 (UInt8.ofNat x)) ((T : Int) + (g : Int))
      subst hae
      replace h := Box.mk h
      replace hput := Box.mk hput
      replace hcall := Box.mk hcall
      replace hR := Box.mk hR
      replace hL := Box.mk hL
      replace hx := Box.mk hx
      replace hT := Box.mk hT
      replace hgx := Box.mk hgx
      replace hnext := Box.mk hnext
      replace hcx := Box.mk hcx
      replace hb := Box.mk hb
      go_wp2_with fail
      refine hcall.out.mono ?_
      rintro e w5 ⟨a2, n2, rfl, hL2, _, hb5⟩
      have hn2 : n2 ≤ 5 := by rw [hL2.1]; exact hpl
      have hn2' : ¬ (5 : Int) < n2 := by omega
      have hb6 := Box.mk (hb.out.trans (hb5.mono hb.out.size))
      replace hL2 := Box.mk hL2
      replace hb5 := Box.mk hb5
      clear hcw hbw
      go_wp2
      go_roundw
      case rel => exact ⟨hb6.out, i + 1, a2, n2, n2, _, by omega, by go_num, by rw [hnext.out]; go_num, rfl, hL2.out, hput.out, hn2⟩
      case measure => simp [intOf]; omega
    · obtain rfl : i = n := by omega
      have hlt' : ¬ (i : Int) < i := by omega
      obtain ⟨T, hT⟩ : ∃ T, g * i = T := ⟨_, rfl⟩
      rw [hT] at hT1 ⊢
      have hbm : Below W.heap.size W (wr.alloc (.map #[] 0)) := hb.alloc hb.size _
      have hM0 := MB.made wr
      have hbk : Below wr.heap.size wr (wr.alloc (.map #[] 0)) := (Below.refl _ _).alloc (Nat.le_refl _) _
      have hwm1 : wrap64 ((i : Int) - 1) = (i : Int) - 1 := IntWalk.wrap64_in _ ⟨by omega, by omega⟩
      replace hb := Box.mk hb
      replace hbm := Box.mk hbm
      replace hM0 := Box.mk hM0
      replace hbk := Box.mk hbk
      replace hL := Box.mk hL
      replace hR := Box.mk hR
      replace hT := Box.mk hT
      replace hwm1 := Box.mk hwm1
      obtain ⟨w0, hw0⟩ : ∃ w0, wr = w0 := ⟨_, rfl⟩
      rw [hw0] at hb hbm hM0 hbk hL ⊢
      clear hw0
      obtain ⟨mb, hmb⟩ : ∃ m, w0.heap.size = m := ⟨_, rfl⟩
      go_wp2_with fail
      have hM1 := Box.mk (show MB (w0.alloc (.map #[] 0)) mb [] by have := hM0.out; rw [hmb] at this; exact this)
      have hml := Box.mk hmb
      clear hmb
      go_loopw [11, 12] (fun av iv wq => Below w0.heap.size w0 wq ∧ ∃ (r : Nat) (Z : List Nat), r ≤ i ∧ iv = .int .i64 ((r : Int) - 1) ∧ av = .int .u64 ((g * r : Nat) : Int) ∧ MB wq mb Z ∧ SeenL ids g i r Z) (fun _ iv _ => (intOf iv + 1).toNat)
      case atStart => exact ⟨hbk.out, i, [], Nat.le_refl _, rfl, by rw [hT.out], hM1.out, SeenL.start _ _ _⟩
      case round =>
        obtain ⟨hbq, r, Z, hr, rfl, rfl, hM, hS⟩ := hrel
        have hLq := hL.out.below hbq
        have hbW := hb.out.trans (hbq.mono hb.out.size)
        have hmq := hM.lt
        cases r with
        | zero =>
          rw [show (((0 : Nat) : Int) - 1) = -1 from by omega]
          have hlook := hM.look k (by omega)
          by_cases hkZ : k ∈ Z
          · rw [decide_eq_true hkZ] at hlook
            replace hkZ := Box.mk hkZ
            replace hS := Box.mk hS
            replace hM := Box.mk hM
            replace hLq := Box.mk hLq
            go_wp2_with fail
            go_ret
            exact gives_bool rfl hbW
          · rw [decide_eq_false hkZ] at hlook
            have hcall := has_any a' n' c' l (key1 (UInt8.ofNat k)) (T : Int) wr hLq (by omega)
            have hfin : hasB l (key1 (UInt8.ofNat k)) (T : Int) = false := hS.fin hR.out hkZ (by omega) (T : Int)
            rw [hfin] at hcall
            have hk256 : k < 256 := by omega
            replace hkZ := Box.mk hkZ
            replace hS := Box.mk hS
            replace hM := Box.mk hM
            replace hLq := Box.mk hLq
            replace hcall := Box.mk hcall
            replace hfin := Box.mk hfin
            go_wp2_with fail
            refine hcall.out.mono ?_
            rintro e w5 ⟨rfl, hb5⟩
            have hbf := hbW.trans (hb5.mono hbW.size)
            go_wp2
            go_ret
            exact gives_bool rfl hbf
        | succ q =>
          rw [show (((q + 1 : Nat) : Int) - 1) = (q : Int) from by omega]
          obtain ⟨x, hx⟩ : ∃ x, ids[q]? = some x := ⟨_, List.getElem?_eq_getElem (by have := hnl.out; omega)⟩
          obtain ⟨b, o, hae, hbl, hcx⟩ := h.out.at_ q x hx
          have hxl := h.out.lt x (List.mem_of_getElem? hx)
          have hcw := (hbW.cell (p := ⟨b, o + q, none⟩) hbl).trans hcx
          have hbw : b < wr.heap.size := Nat.lt_of_lt_of_le hbl hbW.size
          have hgx : ids.getD q 0 = x := by rw [List.getD_eq_getElem?_getD, hx]; rfl
          have hle1 : g * (q + 1) ≤ T := by rw [← hT.out]; exact Nat.mul_le_mul_left g hr
          have hmul : g * (q + 1) = g * q + g := by rw [Nat.mul_add, Nat.mul_one]
          have hnewI := hS.new (l := l)
          rw [hgx] at hnewI
          have holdI := hS.old
          rw [hgx] at holdI
          have hit : itA ids g q = ⟨kB x, ((g * (q + 1) : Nat) : Int)⟩ := by unfold itA; rw [hgx]
          rw [hit] at hnewI
          obtain ⟨Tq, hTq⟩ : ∃ t, g * q = t := ⟨_, rfl⟩
          rw [hTq] at hmul
          obtain ⟨T1, hT1e⟩ : ∃ t, g * (q + 1) = t := ⟨_, rfl⟩
          rw [hT1e] at hmul hle1 hnewI ⊢
          have hsub : ((T : Int) - (T1 : Int)) % 18446744073709551616 = (T : Int) - T1 := by omega
          have hsub2 : ((T1 : Int) - (g : Int)) % 18446744073709551616 = (Tq : Int) := by omega
          have hsubw : IntKind.u64.wrap ((T : Int) - (T1 : Int)) = (T : Int) - T1 := by rw [IntKind.wrap_u64, hsub]
          have hyo := youngB_at (now := (T : Int)) (a := (T1 : Int)) (k := kB x) (by omega) (by omega) (by omega)
          obtain ⟨yb, hyb⟩ : ∃ y, decide ((T : Int) - (T1 : Int) < 60) = y := ⟨_, rfl⟩
          rw [hyb] at hyo
          have hlook := hM.look x hxl
          have hlen := hM.len 3
          have hfewZ := hS.few
          subst hae
          replace h := Box.mk h.out
          replace hx := Box.mk hx
          replace hcx := Box.mk hcx
          replace hgx := Box.mk hgx
          replace hle1 := Box.mk hle1
          replace hmul := Box.mk hmul
          replace hTq := Box.mk hTq
          replace hT1e := Box.mk hT1e
          replace hit := Box.mk hit
          replace hS := Box.mk hS
          by_cases hxZ : x ∈ Z
          · have hOld := Box.mk (holdI (.inl hxZ))
            rw [decide_eq_true hxZ] at hlook
            replace hxZ := Box.mk hxZ
            replace hnewI := Box.mk hnewI
            replace holdI := Box.mk holdI
            replace hM := Box.mk hM
            replace hLq := Box.mk hLq
            replace hbq := Box.mk hbq
            replace hbW := Box.mk hbW
            replace hyo := Box.mk hyo
            go_wp2
            go_roundw
            case rel => exact ⟨hbq.out, q, Z, by omega, rfl, by rw [hTq.out, IntKind.wrap_u64, hsub2], hM.out, hOld.out⟩
            case measure => first | (simp [intOf]; done) | (simp [intOf]; omega)
          · rw [decide_eq_false hxZ] at hlook
            by_cases h5 : Z.length < 5
            · have h5' : (Z.length : Int) < 5 := by omega
              obtain ⟨hN1, hN2⟩ := hnewI hR.out hxl hxZ h5 (T : Int)
              have hcall := has_any a' n' c' l (key1 (UInt8.ofNat x)) (T : Int) wr hLq (by omega)
              replace hN2 : hasB l (key1 (UInt8.ofNat x)) (T : Int) = yb := hN2.trans hyo
              rw [hN2] at hcall
              replace hnewI := Box.mk hnewI
              replace holdI := Box.mk holdI
              replace hLq := Box.mk hLq
              replace hyo := Box.mk hyo
              replace hN1 := Box.mk hN1
              replace hN2 := Box.mk hN2
              replace hcall := Box.mk hcall
              replace hM := Box.mk hM
              replace hbq := Box.mk hbq
              replace hbW := Box.mk hbW
              go_wp2_with fail
              refine hcall.out.mono ?_
              rintro e w5 ⟨rfl, hb5⟩
              have hM5 : MB w5 mb Z := hM.out.congr (hb5.block mb hmq)
              have hcw5 := (hb5.cell (p := ⟨b, o + q, none⟩) hbw).trans hcw
              have hbw5 : b < w5.heap.size := Nat.lt_of_lt_of_le hbw hb5.size
              obtain ⟨w6, hrun6, hM6, hg6⟩ := hM5.put x hxl hxZ (by omega)
              have hb56 := since_next hbq.out hb5
              have hb6 := Box.mk (hb56.trans (grown_below hg6 (fun j hj => by injection hj with hj; rw [← hj, hml.out]; exact Nat.le_refl _) (by have := hb56.size; omega)))
              replace hM5 := Box.mk hM5
              replace hM6 := Box.mk hM6
              replace hb56 := Box.mk hb56
              replace hb5 := Box.mk hb5
              replace hg6 := Box.mk hg6
              replace hxZ := Box.mk hxZ
              clear hlook hlen hcw hbw
              go_wp2
              go_roundw
              case rel => exact ⟨hb6.out, q, Z ++ [x], by omega, rfl, by rw [hTq.out, IntKind.wrap_u64, hsub2], hM6.out, hN1.out⟩
              case measure => first | (simp [intOf]; done) | (simp [intOf]; omega)
            · have h5' : ¬ (Z.length : Int) < 5 := by omega
              have hOld := Box.mk (holdI (.inr h5))
              replace hxZ := Box.mk hxZ
              replace hnewI := Box.mk hnewI
              replace holdI := Box.mk holdI
              replace hM := Box.mk hM
              replace hLq := Box.mk hLq
              replace hbq := Box.mk hbq
              replace hbW := Box.mk hbW
              replace hyo := Box.mk hyo
              replace h5 := Box.mk h5
              go_wp2
              go_roundw
              case rel => exact ⟨hbq.out, q, Z, by omega, rfl, by rw [hTq.out, IntKind.wrap_u64, hsub2], hM.out, hOld.out⟩
              case measure => first | (simp [intOf]; done) | (simp [intOf]; omega)
end Go.Proofs.Ytghjpbmemogioaa
