/- Layer 5: a transaction with too many things of one kind has no bytes, and no name. (printed by mktxmany.py) -/
import Derived.Test.YtfnlgihkofkibaaRefRd2
import Derived.Test.YtfnlgihkofkibaaTxId
namespace Go.Proofs.Ytfnlgihkofkibaa
open Go.RowKit
set_option linter.unusedVariables false
set_option linter.unusedSimpArgs false
set_option maxRecDepth 100000

def buildPt1To (P : Program) (w : World) (u : Value) : Result Next := (do pure (.value (← Instr.build 36 #[(0, u)])) : Sem Next).run P w
theorem build_pt1 (ρ : Operand → Value) (dst : Option Tmp) (x : Operand) (t : TypeId) (pos : String) (after : Array Edge) (guard : Option (Nat × Bool)) (w : World) :
    (execOp ρ ⟨dst, .build 36 #[(0, x)], t, pos, after, guard⟩).run Try.prog w = buildPt1To Try.prog w (ρ x) := by simp [execOp, buildPt1To]
theorem run_build_pt1 (u : Key) (w : World) : (Instr.build 36 #[(0, Value.agg (keyC u).toArray)]).run Try.prog w = .ok (.agg (pointC ⟨u, 0⟩).toArray) w := by
  obtain ⟨b0, b1, b2, b3, b4, b5, b6, b7, b8, b9, b10, b11, b12, b13, b14, b15, b16, b17, b18, b19, b20, b21, b22, b23, b24, b25, b26, b27, b28, b29, b30, b31, h⟩ := list32' (keyC u) (keyC_length u)
  unfold pointC
  show (Instr.build 36 #[(0, Value.agg (keyC u).toArray)]).run Try.prog w = .ok (Value.agg (keyC u ++ [Value.int .u32 0]).toArray) w
  rw [h]
  kernel_rfl
@[go_sem] theorem buildPt1To_lit (u : Key) (w : World) : buildPt1To Try.prog w (Value.agg (keyC u).toArray) = .ok (.value (.agg (pointC ⟨u, 0⟩).toArray)) w := by
  unfold buildPt1To
  rw [Sem.run_bind, run_build_pt1]
  rfl
def buildOut1To (P : Program) (w : World) (u : Value) : Result Next := (do pure (.value (← Instr.build 50 #[(1, u)])) : Sem Next).run P w
theorem build_out1 (ρ : Operand → Value) (dst : Option Tmp) (x : Operand) (t : TypeId) (pos : String) (after : Array Edge) (guard : Option (Nat × Bool)) (w : World) :
    (execOp ρ ⟨dst, .build 50 #[(1, x)], t, pos, after, guard⟩).run Try.prog w = buildOut1To Try.prog w (ρ x) := by simp [execOp, buildOut1To]
theorem run_build_out1 (u : Key) (w : World) : (Instr.build 50 #[(1, Value.agg (keyC u).toArray)]).run Try.prog w = .ok (.agg (outC ⟨0, u⟩).toArray) w := by
  obtain ⟨b0, b1, b2, b3, b4, b5, b6, b7, b8, b9, b10, b11, b12, b13, b14, b15, b16, b17, b18, b19, b20, b21, b22, b23, b24, b25, b26, b27, b28, b29, b30, b31, h⟩ := list32' (keyC u) (keyC_length u)
  unfold outC
  show (Instr.build 50 #[(1, Value.agg (keyC u).toArray)]).run Try.prog w = .ok (Value.agg (Value.int .i64 0 :: keyC u).toArray) w
  rw [h]
  kernel_rfl
@[go_sem] theorem buildOut1To_lit (u : Key) (w : World) : buildOut1To Try.prog w (Value.agg (keyC u).toArray) = .ok (.value (.agg (outC ⟨0, u⟩).toArray)) w := by
  unfold buildOut1To
  rw [Sem.run_bind, run_build_out1]
  rfl
@[go_sem ↓] theorem lit_0000 : Value.string ⟨#[0, 0, 0, 0]⟩ = .string (sB [0, 0, 0, 0]) := rfl
/-- Bytes that tell of too many. -/
theorem decR_many {b : UInt8} (h : 41 ≤ b.toNat) (h2 : b.toNat < 253) : decR [0, 0, 0, 0, b] = .error 51 := by
  refine decR_err ?_
  unfold txR
  show thenR (numR 4 [0, 0, 0, 0, b]) _ = _
  rw [numR_well (by simp), thenR_ok]
  show thenR (manyR [b]) _ = _
  have hv : readV [b] = (b.toNat, [], 0) := readV_low h2
  rw [manyR_many (by rw [hv]) (by rw [hv]; show 40 < b.toNat; omega)]
  rfl

attribute [local irreducible] Int.lt Int.le
attribute [local go_sem] sB_append
attribute [local go_sem ↓] load_key store_key alloc_key build0_key eq_key load_point store_point alloc_point load_out store_out alloc_out load_tx store_tx alloc_tx build0_tx build_pt1 build_out1 one_key one_point one_out rappend_pt rappend_out rappend_key
attribute [local go_sem] rowOf_drew rowOf_alloc_old rowOf_alloc_new canPut_drew canPut_alloc_old canPut_alloc_new setCells_alloc_new

set_option maxHeartbeats 8000000 in
theorem txMany_walk (n kd : Nat) (k : Key) (W : World) (hn : n < 256) (hkd : kd < 256) : Calls Try.prog 10 #[.int .u8 n, .int .u8 kd, .agg (keyC k).toArray] W (LawEnd W) := by
  obtain ⟨m, hm, hm1, hm2⟩ : ∃ m : Nat, m < 60 ∧ (n : Int) % 60 = (m : Int) ∧ (n : Int).tmod 60 = (m : Int) := ⟨n % 60, Nat.mod_lt _ (by omega), by simp, by rw [Int.tmod_eq_emod_of_nonneg (by omega)]; simp⟩
  obtain ⟨b, hb, hb1, hb2⟩ : ∃ b : Nat, b < 100 ∧ (n : Int) % 100 = (b : Int) ∧ (n : Int).tmod 100 = (b : Int) := ⟨n % 100, Nat.mod_lt _ (by omega), by simp, by rw [Int.tmod_eq_emod_of_nonneg (by omega)]; simp⟩
  obtain ⟨q, hq, hq1, hq2⟩ : ∃ q : Nat, q < 4 ∧ (kd : Int) % 4 = (q : Int) ∧ (kd : Int).tmod 4 = (q : Int) := ⟨kd % 4, Nat.mod_lt _ (by omega), by simp, by rw [Int.tmod_eq_emod_of_nonneg (by omega)]; simp⟩
  have hB0 : Below W.heap.size W ((W.alloc (.cells (keyC k).toArray 26)).alloc (.cells (txC zeroTx).toArray 29)) := ((Below.refl _ _).alloc (Nat.le_refl _) _).alloc (by simp) _
  have KK : ((W.alloc (.cells (keyC k).toArray 26)).alloc (.cells (txC zeroTx).toArray 29)).heap[W.heap.size]? = some (.cells (keyC k).toArray 26 (0, 0)) := by rw [Below.heap_alloc _ _ _ (by simp)]; exact heap_alloc_new W _
  have KT : ((W.alloc (.cells (keyC k).toArray 26)).alloc (.cells (txC zeroTx).toArray 29)).heap[W.heap.size + 1]? = some (.cells (txC zeroTx).toArray 29 (0, 0)) := by have := heap_alloc_new (W.alloc (.cells (keyC k).toArray 26)) (.cells (txC zeroTx).toArray 29); rw [World.size_alloc] at this; exact this
  have z0 : ((W.alloc (.cells (keyC k).toArray 26)).alloc (.cells (txC zeroTx).toArray 29)).heap.size = W.heap.size + 1 + 1 := by simp
  have hcase : q = 0 ∨ q = 1 ∨ q = 2 ∨ q = 3 := by omega
  rcases hcase with rfl | rfl | rfl | rfl
  · go_enter Try.func10, Try.ntmps10
    go_wp2_with fail
    generalize (W.alloc (.cells (keyC k).toArray 26)).alloc (.cells (txC zeroTx).toArray 29) = w0 at *
    go_loopw [9] (fun i wr => Below W.heap.size W wr ∧ W.heap.size + 2 ≤ wr.heap.size ∧ ∃ j : Nat, j ≤ m ∧ i = .int .i64 j ∧ wr.heap[W.heap.size]? = some (.cells (keyC k).toArray 26 (0, 0)) ∧ ∃ u c, wr.heap[W.heap.size + 1]? = some (.cells (txC { zeroTx with ins := ⟨u, j, c⟩ }).toArray 29 (0, 0)) ∧ Own pointC 33 36 wr (W.heap.size + 2) (.slice u j c) (List.replicate j (⟨k, 0⟩ : PointV))) (fun i _ => m - (intOf i).toNat)
    case atStart => exact ⟨hB0, by omega, 0, Nat.zero_le _, rfl, KK, none, 0, KT, Own.nil _ _ _ _ _⟩
    case round =>
      clear hB0 KK KT z0
      obtain ⟨BW, zw, j, hj, rfl, KK, u, c, KT, hown⟩ := hrel
      by_cases hlt : j < m
      · have hlt' : (j : Int) < (m : Int) := by omega
        obtain ⟨t0, t1, t2, t3, t4, t5, t6, t7⟩ := tx_all KT
        have rk := key_row' KK
        have sk : W.heap.size < wr.heap.size := by omega
        have KTb := Box.mk KT
        have KKb := Box.mk KK
        have hownb := Box.mk hown
        clear KK KT hown
        go_wp2_with fail
        obtain ⟨u', c', w6, hap, own6, b6, z6⟩ := rapp_pt (ty := 23) hownb.out (by omega) (⟨k, 0⟩ : PointV) (by rw [List.length_replicate]; omega)
        rw [List.length_replicate] at hap own6
        rw [← List.replicate_succ'] at own6
        rw [hap]
        replace hap := Box.mk hap
        clear t0 t1 t2 t3 t4 t5 t6 t7 rk sk
        have KT6 : w6.heap[W.heap.size + 1]? = _ := (b6.block _ (by omega)).trans KTb.out
        have KK6 : w6.heap[W.heap.size]? = _ := (b6.block _ (by omega)).trans KKb.out
        have KT7 := heap_setCell_txC KT6 1 (.slice u' (j + 1) c')
        rw [txC_set1] at KT7
        have KK7 : (w6.setCell ⟨W.heap.size + 1, 1, none⟩ (.slice u' (j + 1) c')).heap[W.heap.size]? = _ := (heap_setCell_ne' (by omega) _).trans KK6
        have own7 : Own pointC 33 36 (w6.setCell ⟨W.heap.size + 1, 1, none⟩ (.slice u' (j + 1) c')) (W.heap.size + 2) (.slice u' (j + 1) c') _ := own6.congr (fun g hg hl => heap_setCell_ne' (by omega) _)
        have B7 : Below W.heap.size W (w6.setCell ⟨W.heap.size + 1, 1, none⟩ (.slice u' (j + 1) c')) := Below.setCell (BW.trans (b6.mono (by omega))) (Nat.le_succ _) _
        have z7 : (w6.setCell ⟨W.heap.size + 1, 1, none⟩ (.slice u' (j + 1) c')).heap.size = w6.heap.size := by simp [World.setCell]
        obtain ⟨t0, t1, t2, t3, t4, t5, t6, t7⟩ := tx_all KT6
        have fz := fun o => frozen_of_row w6 (W.heap.size + 1) o _ _ KT6
        replace KT6 := Box.mk KT6
        replace KK6 := Box.mk KK6
        replace KT7 := Box.mk KT7
        replace KK7 := Box.mk KK7
        replace own6 := Box.mk own6
        replace own7 := Box.mk own7
        replace z7 := Box.mk z7
        go_wp2
        go_roundw
        case rel => exact ⟨B7, by have := z7.out; omega, j + 1, by omega, by go_num, KK7.out, u', c', KT7.out, own7.out⟩
        case measure => simp [intOf]; omega
      · obtain rfl : j = m := by omega
        obtain ⟨t, ht⟩ : ∃ t, { zeroTx with ins := ⟨u, j, c⟩ } = t := ⟨_, rfl⟩
        obtain ⟨d, hd⟩ : ∃ d, { zeroD with ins := List.replicate j (⟨k, 0⟩ : PointV) } = d := ⟨_, rfl⟩
        have L : TxL wr t d := by
          rw [← ht, ← hd]
          exact ⟨hown.sl'.2, SL.nil _ _ _, SL.nil _ _ _, SL.nil _ _ _, (fun p hp => by rw [(List.mem_replicate.1 hp).2]; exact ⟨by show (0 : Int) ≤ 0; omega, by show (0 : Int) ≤ 4294967295; omega⟩), (fun p hp => nomatch hp), ⟨rfl, by show (0 : Int) ≤ 0; omega, by show (0 : Int) ≤ 4294967295; omega⟩, rfl, ⟨rfl, by show (-9223372036854775808 : Int) ≤ 0; omega, by show (0 : Int) ≤ 9223372036854775807; omega⟩⟩
        have hmany : manyB d = decide (40 < j) := by rw [← hd]; unfold manyB; simp [zeroD, List.length_replicate]
        have hz : d.anchor = zeroKey := by rw [← hd]; rfl
        rw [ht] at KT
        have K_t := Box.mk KT
        replace L := Box.mk L
        replace BW := Box.mk BW
        replace ht := Box.mk ht
        replace hd := Box.mk hd
        clear KT hown KK
        skip
        skip
        by_cases h40 : 40 < j
        · have hE : encV d = ([], 51) := by unfold encV; rw [hmany, decide_eq_true h40, if_pos rfl]
          have hN := nameV_err hE (by omega)
          have g40 : (40 : Int) < (j : Int) := by omega
          have g41 : ¬ (j : Int) ≤ 40 := by omega
          obtain ⟨s0, hs0⟩ : ∃ s, s = ([] : List UInt8) := ⟨_, rfl⟩
          obtain ⟨k0, hk0⟩ : ∃ s, s = zeroKey := ⟨_, rfl⟩
          rw [← hs0] at hE
          rw [← hk0] at hN
          replace hE := Box.mk hE
          replace hN := Box.mk hN
          replace hs0 := Box.mk hs0
          replace hk0 := Box.mk hk0
          replace hmany := Box.mk hmany
          replace hz := Box.mk hz
          have R_t := tx_row K_t.out
          have S_t := (Array.getElem?_eq_some_iff.1 K_t.out).1
          have hge : ¬ (j : Int) < (j : Int) := by omega
          go_wp2_with fail
          refine (encode_any t d _ L.out).mono ?_
          rintro e w2 ⟨rfl, b2⟩
          rw [hE.out]
          unfold valE
          clear R_t
          clear S_t
          replace K_t := Box.mk (keepBlock b2 K_t.out)
          replace L := Box.mk (L.out.below b2)
          replace BW := Box.mk (BW.out.trans (b2.mono BW.out.size))
          have R_t := tx_row K_t.out
          have S_t := (Array.getElem?_eq_some_iff.1 K_t.out).1
          go_wp2_with fail
          refine (id_any t d _ L.out).mono ?_
          rintro e w3 ⟨rfl, b3⟩
          rw [hN.out]
          unfold valNm
          clear R_t
          clear S_t
          replace K_t := Box.mk (keepBlock b3 K_t.out)
          replace L := Box.mk (L.out.below b3)
          replace BW := Box.mk (BW.out.trans (b3.mono BW.out.size))
          obtain ⟨y, hy⟩ : ∃ y : UInt8, y.toNat = 41 + b := ⟨UInt8.ofNat (41 + b), by simp; omega⟩
          have oz : OwnB ((w3.alloc (.cells (keyC k0).toArray 26)).alloc (.cells #[.int .u8 (41 + (b : Int))] 5)) (w3.heap.size + 1) (.slice (some ⟨w3.heap.size + 1, 0, none⟩) 1 1) [y] := by
            have h1 := OwnV.new (w3.alloc (.cells (keyC k0).toArray 26)) (w3.heap.size + 1) 5 (w3.heap.size + 1) [.int .u8 (41 + (b : Int))] (by simp) (Nat.le_refl _) (by unfold maxLen; simp)
            have h2 : bC [y] = [.int .u8 (41 + (b : Int))] := by unfold bC; show [Value.int .u8 ((y.toNat : Nat) : Int)] = _; rw [hy]; simp
            show OwnV _ _ _ _ (bC [y])
            rw [h2]
            exact h1
          have hcv := run_string_own oz
          have hbw : ((41 : Int) + (b : Int)) % 256 = 41 + (b : Int) := by omega
          replace oz := Box.mk oz
          have hdR : decR [0, 0, 0, 0, y] = .error 51 := decR_many (by omega) (by omega)
          replace hdR := Box.mk hdR
          have BZ := (BW.out.alloc BW.out.size (.cells (keyC k0).toArray 26)).alloc (by have := BW.out.size; simp; omega) (.cells #[.int .u8 (41 + (b : Int))] 5)
          replace hy := Box.mk hy
          go_wp2_with fail
          clear hcv
          generalize (w3.alloc (.cells (keyC k0).toArray 26)).alloc (.cells #[.int .u8 (41 + (b : Int))] 5) = wz at *
          refine (decode_any [0, 0, 0, 0, y] wz (by simp)).mono ?_
          rw [hdR.out]
          rintro e w5 ⟨rfl, b5⟩
          have B5 := BZ.trans (b5.mono BZ.size)
          have B6 := B5.alloc B5.size (.cells (txC zeroTx).toArray 29)
          go_wp2_with fail
          generalize w5.alloc (.cells (txC zeroTx).toArray 29) = w6 at *
          refine (shown05 _).mono ?_
          rintro e w7 ⟨rfl, b7⟩
          go_wp2
          go_ret
          exact gives_bool (by first | rfl | simp [g40, g41]) (B6.trans (b7.mono B6.size))
        · have hE : encV d = (encB d, 0) := encV_well ⟨by rw [hmany]; exact decide_eq_false h40, fun _ => hz⟩
          have hw : wellB d := ⟨by rw [hmany]; exact decide_eq_false h40, fun _ => hz⟩
          have hN := nameV_ok hE
          have g40 : ¬ (40 : Int) < (j : Int) := by omega
          have g41 : (j : Int) ≤ 40 := by omega
          obtain ⟨s0, hs0⟩ : ∃ s, s = encB d := ⟨_, rfl⟩
          obtain ⟨k0, hk0⟩ : ∃ s, s = doubleK (encB d) := ⟨_, rfl⟩
          rw [← hs0] at hE
          rw [← hk0] at hN
          replace hE := Box.mk hE
          replace hN := Box.mk hN
          replace hs0 := Box.mk hs0
          replace hk0 := Box.mk hk0
          replace hmany := Box.mk hmany
          replace hz := Box.mk hz
          replace hw := Box.mk hw
          have R_t := tx_row K_t.out
          have S_t := (Array.getElem?_eq_some_iff.1 K_t.out).1
          have hge : ¬ (j : Int) < (j : Int) := by omega
          go_wp2_with fail
          refine (encode_any t d _ L.out).mono ?_
          rintro e w2 ⟨rfl, b2⟩
          rw [hE.out]
          unfold valE
          clear R_t
          clear S_t
          replace K_t := Box.mk (keepBlock b2 K_t.out)
          replace L := Box.mk (L.out.below b2)
          replace BW := Box.mk (BW.out.trans (b2.mono BW.out.size))
          have R_t := tx_row K_t.out
          have S_t := (Array.getElem?_eq_some_iff.1 K_t.out).1
          go_wp2_with fail
          refine (id_any t d _ L.out).mono ?_
          rintro e w3 ⟨rfl, b3⟩
          rw [hN.out]
          unfold valNm
          clear R_t
          clear S_t
          replace K_t := Box.mk (keepBlock b3 K_t.out)
          replace L := Box.mk (L.out.below b3)
          replace BW := Box.mk (BW.out.trans (b3.mono BW.out.size))
          obtain ⟨y, hy⟩ : ∃ y : UInt8, y.toNat = 41 + b := ⟨UInt8.ofNat (41 + b), by simp; omega⟩
          have oz : OwnB ((w3.alloc (.cells (keyC k0).toArray 26)).alloc (.cells #[.int .u8 (41 + (b : Int))] 5)) (w3.heap.size + 1) (.slice (some ⟨w3.heap.size + 1, 0, none⟩) 1 1) [y] := by
            have h1 := OwnV.new (w3.alloc (.cells (keyC k0).toArray 26)) (w3.heap.size + 1) 5 (w3.heap.size + 1) [.int .u8 (41 + (b : Int))] (by simp) (Nat.le_refl _) (by unfold maxLen; simp)
            have h2 : bC [y] = [.int .u8 (41 + (b : Int))] := by unfold bC; show [Value.int .u8 ((y.toNat : Nat) : Int)] = _; rw [hy]; simp
            show OwnV _ _ _ _ (bC [y])
            rw [h2]
            exact h1
          have hcv := run_string_own oz
          have hbw : ((41 : Int) + (b : Int)) % 256 = 41 + (b : Int) := by omega
          replace oz := Box.mk oz
          have hdR : decR [0, 0, 0, 0, y] = .error 51 := decR_many (by omega) (by omega)
          replace hdR := Box.mk hdR
          have BZ := (BW.out.alloc BW.out.size (.cells (keyC k0).toArray 26)).alloc (by have := BW.out.size; simp; omega) (.cells #[.int .u8 (41 + (b : Int))] 5)
          replace hy := Box.mk hy
          go_wp2_with fail
          clear hcv
          generalize (w3.alloc (.cells (keyC k0).toArray 26)).alloc (.cells #[.int .u8 (41 + (b : Int))] 5) = wz at *
          refine (decode_any [0, 0, 0, 0, y] wz (by simp)).mono ?_
          rw [hdR.out]
          rintro e w5 ⟨rfl, b5⟩
          have B5 := BZ.trans (b5.mono BZ.size)
          have B6 := B5.alloc B5.size (.cells (txC zeroTx).toArray 29)
          go_wp2_with fail
          generalize w5.alloc (.cells (txC zeroTx).toArray 29) = w6 at *
          refine (shown05 _).mono ?_
          rintro e w7 ⟨rfl, b7⟩
          go_wp2
          go_ret
          exact gives_bool (by first | rfl | simp [g40, g41]) (B6.trans (b7.mono B6.size))
  · go_enter Try.func10, Try.ntmps10
    go_wp2_with fail
    generalize (W.alloc (.cells (keyC k).toArray 26)).alloc (.cells (txC zeroTx).toArray 29) = w0 at *
    go_loopw [9] (fun i wr => Below W.heap.size W wr ∧ W.heap.size + 2 ≤ wr.heap.size ∧ ∃ j : Nat, j ≤ m ∧ i = .int .i64 j ∧ wr.heap[W.heap.size]? = some (.cells (keyC k).toArray 26 (0, 0)) ∧ ∃ u c, wr.heap[W.heap.size + 1]? = some (.cells (txC { zeroTx with outs := ⟨u, j, c⟩ }).toArray 29 (0, 0)) ∧ Own outC 33 50 wr (W.heap.size + 2) (.slice u j c) (List.replicate j (⟨0, k⟩ : OutV))) (fun i _ => m - (intOf i).toNat)
    case atStart => exact ⟨hB0, by omega, 0, Nat.zero_le _, rfl, KK, none, 0, KT, Own.nil _ _ _ _ _⟩
    case round =>
      clear hB0 KK KT z0
      obtain ⟨BW, zw, j, hj, rfl, KK, u, c, KT, hown⟩ := hrel
      by_cases hlt : j < m
      · have hlt' : (j : Int) < (m : Int) := by omega
        obtain ⟨t0, t1, t2, t3, t4, t5, t6, t7⟩ := tx_all KT
        have rk := key_row' KK
        have sk : W.heap.size < wr.heap.size := by omega
        have KTb := Box.mk KT
        have KKb := Box.mk KK
        have hownb := Box.mk hown
        clear KK KT hown
        go_wp2_with fail
        obtain ⟨u', c', w6, hap, own6, b6, z6⟩ := rapp_out (ty := 24) hownb.out (by omega) (⟨0, k⟩ : OutV) (by rw [List.length_replicate]; omega)
        rw [List.length_replicate] at hap own6
        rw [← List.replicate_succ'] at own6
        rw [hap]
        replace hap := Box.mk hap
        clear t0 t1 t2 t3 t4 t5 t6 t7 rk sk
        have KT6 : w6.heap[W.heap.size + 1]? = _ := (b6.block _ (by omega)).trans KTb.out
        have KK6 : w6.heap[W.heap.size]? = _ := (b6.block _ (by omega)).trans KKb.out
        have KT7 := heap_setCell_txC KT6 2 (.slice u' (j + 1) c')
        rw [txC_set2] at KT7
        have KK7 : (w6.setCell ⟨W.heap.size + 1, 2, none⟩ (.slice u' (j + 1) c')).heap[W.heap.size]? = _ := (heap_setCell_ne' (by omega) _).trans KK6
        have own7 : Own outC 33 50 (w6.setCell ⟨W.heap.size + 1, 2, none⟩ (.slice u' (j + 1) c')) (W.heap.size + 2) (.slice u' (j + 1) c') _ := own6.congr (fun g hg hl => heap_setCell_ne' (by omega) _)
        have B7 : Below W.heap.size W (w6.setCell ⟨W.heap.size + 1, 2, none⟩ (.slice u' (j + 1) c')) := Below.setCell (BW.trans (b6.mono (by omega))) (Nat.le_succ _) _
        have z7 : (w6.setCell ⟨W.heap.size + 1, 2, none⟩ (.slice u' (j + 1) c')).heap.size = w6.heap.size := by simp [World.setCell]
        obtain ⟨t0, t1, t2, t3, t4, t5, t6, t7⟩ := tx_all KT6
        have fz := fun o => frozen_of_row w6 (W.heap.size + 1) o _ _ KT6
        replace KT6 := Box.mk KT6
        replace KK6 := Box.mk KK6
        replace KT7 := Box.mk KT7
        replace KK7 := Box.mk KK7
        replace own6 := Box.mk own6
        replace own7 := Box.mk own7
        replace z7 := Box.mk z7
        go_wp2
        go_roundw
        case rel => exact ⟨B7, by have := z7.out; omega, j + 1, by omega, by go_num, KK7.out, u', c', KT7.out, own7.out⟩
        case measure => simp [intOf]; omega
      · obtain rfl : j = m := by omega
        obtain ⟨t, ht⟩ : ∃ t, { zeroTx with outs := ⟨u, j, c⟩ } = t := ⟨_, rfl⟩
        obtain ⟨d, hd⟩ : ∃ d, { zeroD with outs := List.replicate j (⟨0, k⟩ : OutV) } = d := ⟨_, rfl⟩
        have L : TxL wr t d := by
          rw [← ht, ← hd]
          exact ⟨SL.nil _ _ _, hown.sl'.2, SL.nil _ _ _, SL.nil _ _ _, (fun p hp => nomatch hp), (fun p hp => by rw [(List.mem_replicate.1 hp).2]; exact ⟨by show (-9223372036854775808 : Int) ≤ 0; omega, by show (0 : Int) ≤ 9223372036854775807; omega⟩), ⟨rfl, by show (0 : Int) ≤ 0; omega, by show (0 : Int) ≤ 4294967295; omega⟩, rfl, ⟨rfl, by show (-9223372036854775808 : Int) ≤ 0; omega, by show (0 : Int) ≤ 9223372036854775807; omega⟩⟩
        have hmany : manyB d = decide (40 < j) := by rw [← hd]; unfold manyB; simp [zeroD, List.length_replicate]
        have hz : d.anchor = zeroKey := by rw [← hd]; rfl
        rw [ht] at KT
        have K_t := Box.mk KT
        replace L := Box.mk L
        replace BW := Box.mk BW
        replace ht := Box.mk ht
        replace hd := Box.mk hd
        clear KT hown KK
        skip
        skip
        by_cases h40 : 40 < j
        · have hE : encV d = ([], 51) := by unfold encV; rw [hmany, decide_eq_true h40, if_pos rfl]
          have hN := nameV_err hE (by omega)
          have g40 : (40 : Int) < (j : Int) := by omega
          have g41 : ¬ (j : Int) ≤ 40 := by omega
          obtain ⟨s0, hs0⟩ : ∃ s, s = ([] : List UInt8) := ⟨_, rfl⟩
          obtain ⟨k0, hk0⟩ : ∃ s, s = zeroKey := ⟨_, rfl⟩
          rw [← hs0] at hE
          rw [← hk0] at hN
          replace hE := Box.mk hE
          replace hN := Box.mk hN
          replace hs0 := Box.mk hs0
          replace hk0 := Box.mk hk0
          replace hmany := Box.mk hmany
          replace hz := Box.mk hz
          have R_t := tx_row K_t.out
          have S_t := (Array.getElem?_eq_some_iff.1 K_t.out).1
          have hge : ¬ (j : Int) < (j : Int) := by omega
          go_wp2_with fail
          refine (encode_any t d _ L.out).mono ?_
          rintro e w2 ⟨rfl, b2⟩
          rw [hE.out]
          unfold valE
          clear R_t
          clear S_t
          replace K_t := Box.mk (keepBlock b2 K_t.out)
          replace L := Box.mk (L.out.below b2)
          replace BW := Box.mk (BW.out.trans (b2.mono BW.out.size))
          have R_t := tx_row K_t.out
          have S_t := (Array.getElem?_eq_some_iff.1 K_t.out).1
          go_wp2_with fail
          refine (id_any t d _ L.out).mono ?_
          rintro e w3 ⟨rfl, b3⟩
          rw [hN.out]
          unfold valNm
          clear R_t
          clear S_t
          replace K_t := Box.mk (keepBlock b3 K_t.out)
          replace L := Box.mk (L.out.below b3)
          replace BW := Box.mk (BW.out.trans (b3.mono BW.out.size))
          obtain ⟨y, hy⟩ : ∃ y : UInt8, y.toNat = 41 + b := ⟨UInt8.ofNat (41 + b), by simp; omega⟩
          have oz : OwnB ((w3.alloc (.cells (keyC k0).toArray 26)).alloc (.cells #[.int .u8 (41 + (b : Int))] 5)) (w3.heap.size + 1) (.slice (some ⟨w3.heap.size + 1, 0, none⟩) 1 1) [y] := by
            have h1 := OwnV.new (w3.alloc (.cells (keyC k0).toArray 26)) (w3.heap.size + 1) 5 (w3.heap.size + 1) [.int .u8 (41 + (b : Int))] (by simp) (Nat.le_refl _) (by unfold maxLen; simp)
            have h2 : bC [y] = [.int .u8 (41 + (b : Int))] := by unfold bC; show [Value.int .u8 ((y.toNat : Nat) : Int)] = _; rw [hy]; simp
            show OwnV _ _ _ _ (bC [y])
            rw [h2]
            exact h1
          have hcv := run_string_own oz
          have hbw : ((41 : Int) + (b : Int)) % 256 = 41 + (b : Int) := by omega
          replace oz := Box.mk oz
          have hdR : decR [0, 0, 0, 0, y] = .error 51 := decR_many (by omega) (by omega)
          replace hdR := Box.mk hdR
          have BZ := (BW.out.alloc BW.out.size (.cells (keyC k0).toArray 26)).alloc (by have := BW.out.size; simp; omega) (.cells #[.int .u8 (41 + (b : Int))] 5)
          replace hy := Box.mk hy
          go_wp2_with fail
          clear hcv
          generalize (w3.alloc (.cells (keyC k0).toArray 26)).alloc (.cells #[.int .u8 (41 + (b : Int))] 5) = wz at *
          refine (decode_any [0, 0, 0, 0, y] wz (by simp)).mono ?_
          rw [hdR.out]
          rintro e w5 ⟨rfl, b5⟩
          have B5 := BZ.trans (b5.mono BZ.size)
          have B6 := B5.alloc B5.size (.cells (txC zeroTx).toArray 29)
          go_wp2_with fail
          generalize w5.alloc (.cells (txC zeroTx).toArray 29) = w6 at *
          refine (shown05 _).mono ?_
          rintro e w7 ⟨rfl, b7⟩
          go_wp2
          go_ret
          exact gives_bool (by first | rfl | simp [g40, g41]) (B6.trans (b7.mono B6.size))
        · have hE : encV d = (encB d, 0) := encV_well ⟨by rw [hmany]; exact decide_eq_false h40, fun _ => hz⟩
          have hw : wellB d := ⟨by rw [hmany]; exact decide_eq_false h40, fun _ => hz⟩
          have hN := nameV_ok hE
          have g40 : ¬ (40 : Int) < (j : Int) := by omega
          have g41 : (j : Int) ≤ 40 := by omega
          obtain ⟨s0, hs0⟩ : ∃ s, s = encB d := ⟨_, rfl⟩
          obtain ⟨k0, hk0⟩ : ∃ s, s = doubleK (encB d) := ⟨_, rfl⟩
          rw [← hs0] at hE
          rw [← hk0] at hN
          replace hE := Box.mk hE
          replace hN := Box.mk hN
          replace hs0 := Box.mk hs0
          replace hk0 := Box.mk hk0
          replace hmany := Box.mk hmany
          replace hz := Box.mk hz
          replace hw := Box.mk hw
          have R_t := tx_row K_t.out
          have S_t := (Array.getElem?_eq_some_iff.1 K_t.out).1
          have hge : ¬ (j : Int) < (j : Int) := by omega
          go_wp2_with fail
          refine (encode_any t d _ L.out).mono ?_
          rintro e w2 ⟨rfl, b2⟩
          rw [hE.out]
          unfold valE
          clear R_t
          clear S_t
          replace K_t := Box.mk (keepBlock b2 K_t.out)
          replace L := Box.mk (L.out.below b2)
          replace BW := Box.mk (BW.out.trans (b2.mono BW.out.size))
          have R_t := tx_row K_t.out
          have S_t := (Array.getElem?_eq_some_iff.1 K_t.out).1
          go_wp2_with fail
          refine (id_any t d _ L.out).mono ?_
          rintro e w3 ⟨rfl, b3⟩
          rw [hN.out]
          unfold valNm
          clear R_t
          clear S_t
          replace K_t := Box.mk (keepBlock b3 K_t.out)
          replace L := Box.mk (L.out.below b3)
          replace BW := Box.mk (BW.out.trans (b3.mono BW.out.size))
          obtain ⟨y, hy⟩ : ∃ y : UInt8, y.toNat = 41 + b := ⟨UInt8.ofNat (41 + b), by simp; omega⟩
          have oz : OwnB ((w3.alloc (.cells (keyC k0).toArray 26)).alloc (.cells #[.int .u8 (41 + (b : Int))] 5)) (w3.heap.size + 1) (.slice (some ⟨w3.heap.size + 1, 0, none⟩) 1 1) [y] := by
            have h1 := OwnV.new (w3.alloc (.cells (keyC k0).toArray 26)) (w3.heap.size + 1) 5 (w3.heap.size + 1) [.int .u8 (41 + (b : Int))] (by simp) (Nat.le_refl _) (by unfold maxLen; simp)
            have h2 : bC [y] = [.int .u8 (41 + (b : Int))] := by unfold bC; show [Value.int .u8 ((y.toNat : Nat) : Int)] = _; rw [hy]; simp
            show OwnV _ _ _ _ (bC [y])
            rw [h2]
            exact h1
          have hcv := run_string_own oz
          have hbw : ((41 : Int) + (b : Int)) % 256 = 41 + (b : Int) := by omega
          replace oz := Box.mk oz
          have hdR : decR [0, 0, 0, 0, y] = .error 51 := decR_many (by omega) (by omega)
          replace hdR := Box.mk hdR
          have BZ := (BW.out.alloc BW.out.size (.cells (keyC k0).toArray 26)).alloc (by have := BW.out.size; simp; omega) (.cells #[.int .u8 (41 + (b : Int))] 5)
          replace hy := Box.mk hy
          go_wp2_with fail
          clear hcv
          generalize (w3.alloc (.cells (keyC k0).toArray 26)).alloc (.cells #[.int .u8 (41 + (b : Int))] 5) = wz at *
          refine (decode_any [0, 0, 0, 0, y] wz (by simp)).mono ?_
          rw [hdR.out]
          rintro e w5 ⟨rfl, b5⟩
          have B5 := BZ.trans (b5.mono BZ.size)
          have B6 := B5.alloc B5.size (.cells (txC zeroTx).toArray 29)
          go_wp2_with fail
          generalize w5.alloc (.cells (txC zeroTx).toArray 29) = w6 at *
          refine (shown05 _).mono ?_
          rintro e w7 ⟨rfl, b7⟩
          go_wp2
          go_ret
          exact gives_bool (by first | rfl | simp [g40, g41]) (B6.trans (b7.mono B6.size))
  · go_enter Try.func10, Try.ntmps10
    go_wp2_with fail
    generalize (W.alloc (.cells (keyC k).toArray 26)).alloc (.cells (txC zeroTx).toArray 29) = w0 at *
    go_loopw [9] (fun i wr => Below W.heap.size W wr ∧ W.heap.size + 2 ≤ wr.heap.size ∧ ∃ j : Nat, j ≤ m ∧ i = .int .i64 j ∧ wr.heap[W.heap.size]? = some (.cells (keyC k).toArray 26 (0, 0)) ∧ ∃ u c, wr.heap[W.heap.size + 1]? = some (.cells (txC { zeroTx with nulls := ⟨u, j, c⟩ }).toArray 29 (0, 0)) ∧ Own keyC 32 26 wr (W.heap.size + 2) (.slice u j c) (List.replicate j k)) (fun i _ => m - (intOf i).toNat)
    case atStart => exact ⟨hB0, by omega, 0, Nat.zero_le _, rfl, KK, none, 0, KT, Own.nil _ _ _ _ _⟩
    case round =>
      clear hB0 KK KT z0
      obtain ⟨BW, zw, j, hj, rfl, KK, u, c, KT, hown⟩ := hrel
      by_cases hlt : j < m
      · have hlt' : (j : Int) < (m : Int) := by omega
        obtain ⟨t0, t1, t2, t3, t4, t5, t6, t7⟩ := tx_all KT
        have rk := key_row' KK
        have sk : W.heap.size < wr.heap.size := by omega
        have KTb := Box.mk KT
        have KKb := Box.mk KK
        have hownb := Box.mk hown
        clear KK KT hown
        go_wp2_with fail
        obtain ⟨u', c', w6, hap, own6, b6, z6⟩ := rapp_key (ty := 27) hownb.out (by omega) k (by rw [List.length_replicate]; omega)
        rw [List.length_replicate] at hap own6
        rw [← List.replicate_succ'] at own6
        rw [hap]
        replace hap := Box.mk hap
        clear t0 t1 t2 t3 t4 t5 t6 t7 rk sk
        have KT6 : w6.heap[W.heap.size + 1]? = _ := (b6.block _ (by omega)).trans KTb.out
        have KK6 : w6.heap[W.heap.size]? = _ := (b6.block _ (by omega)).trans KKb.out
        have KT7 := heap_setCell_txC KT6 35 (.slice u' (j + 1) c')
        rw [txC_set35] at KT7
        have KK7 : (w6.setCell ⟨W.heap.size + 1, 35, none⟩ (.slice u' (j + 1) c')).heap[W.heap.size]? = _ := (heap_setCell_ne' (by omega) _).trans KK6
        have own7 : Own keyC 32 26 (w6.setCell ⟨W.heap.size + 1, 35, none⟩ (.slice u' (j + 1) c')) (W.heap.size + 2) (.slice u' (j + 1) c') _ := own6.congr (fun g hg hl => heap_setCell_ne' (by omega) _)
        have B7 : Below W.heap.size W (w6.setCell ⟨W.heap.size + 1, 35, none⟩ (.slice u' (j + 1) c')) := Below.setCell (BW.trans (b6.mono (by omega))) (Nat.le_succ _) _
        have z7 : (w6.setCell ⟨W.heap.size + 1, 35, none⟩ (.slice u' (j + 1) c')).heap.size = w6.heap.size := by simp [World.setCell]
        obtain ⟨t0, t1, t2, t3, t4, t5, t6, t7⟩ := tx_all KT6
        have fz := fun o => frozen_of_row w6 (W.heap.size + 1) o _ _ KT6
        replace KT6 := Box.mk KT6
        replace KK6 := Box.mk KK6
        replace KT7 := Box.mk KT7
        replace KK7 := Box.mk KK7
        replace own6 := Box.mk own6
        replace own7 := Box.mk own7
        replace z7 := Box.mk z7
        go_wp2
        go_roundw
        case rel => exact ⟨B7, by have := z7.out; omega, j + 1, by omega, by go_num, KK7.out, u', c', KT7.out, own7.out⟩
        case measure => simp [intOf]; omega
      · obtain rfl : j = m := by omega
        obtain ⟨t, ht⟩ : ∃ t, { zeroTx with nulls := ⟨u, j, c⟩ } = t := ⟨_, rfl⟩
        obtain ⟨d, hd⟩ : ∃ d, { zeroD with nulls := List.replicate j k } = d := ⟨_, rfl⟩
        have L : TxL wr t d := by
          rw [← ht, ← hd]
          exact ⟨SL.nil _ _ _, SL.nil _ _ _, hown.sl'.2, SL.nil _ _ _, (fun p hp => nomatch hp), (fun p hp => nomatch hp), ⟨rfl, by show (0 : Int) ≤ 0; omega, by show (0 : Int) ≤ 4294967295; omega⟩, rfl, ⟨rfl, by show (-9223372036854775808 : Int) ≤ 0; omega, by show (0 : Int) ≤ 9223372036854775807; omega⟩⟩
        have hmany : manyB d = decide (40 < j) := by rw [← hd]; unfold manyB; simp [zeroD, List.length_replicate]
        have hz : d.anchor = zeroKey := by rw [← hd]; rfl
        rw [ht] at KT
        have K_t := Box.mk KT
        replace L := Box.mk L
        replace BW := Box.mk BW
        replace ht := Box.mk ht
        replace hd := Box.mk hd
        clear KT hown KK
        skip
        skip
        by_cases h40 : 40 < j
        · have hE : encV d = ([], 51) := by unfold encV; rw [hmany, decide_eq_true h40, if_pos rfl]
          have hN := nameV_err hE (by omega)
          have g40 : (40 : Int) < (j : Int) := by omega
          have g41 : ¬ (j : Int) ≤ 40 := by omega
          obtain ⟨s0, hs0⟩ : ∃ s, s = ([] : List UInt8) := ⟨_, rfl⟩
          obtain ⟨k0, hk0⟩ : ∃ s, s = zeroKey := ⟨_, rfl⟩
          rw [← hs0] at hE
          rw [← hk0] at hN
          replace hE := Box.mk hE
          replace hN := Box.mk hN
          replace hs0 := Box.mk hs0
          replace hk0 := Box.mk hk0
          replace hmany := Box.mk hmany
          replace hz := Box.mk hz
          have R_t := tx_row K_t.out
          have S_t := (Array.getElem?_eq_some_iff.1 K_t.out).1
          have hge : ¬ (j : Int) < (j : Int) := by omega
          go_wp2_with fail
          refine (encode_any t d _ L.out).mono ?_
          rintro e w2 ⟨rfl, b2⟩
          rw [hE.out]
          unfold valE
          clear R_t
          clear S_t
          replace K_t := Box.mk (keepBlock b2 K_t.out)
          replace L := Box.mk (L.out.below b2)
          replace BW := Box.mk (BW.out.trans (b2.mono BW.out.size))
          have R_t := tx_row K_t.out
          have S_t := (Array.getElem?_eq_some_iff.1 K_t.out).1
          go_wp2_with fail
          refine (id_any t d _ L.out).mono ?_
          rintro e w3 ⟨rfl, b3⟩
          rw [hN.out]
          unfold valNm
          clear R_t
          clear S_t
          replace K_t := Box.mk (keepBlock b3 K_t.out)
          replace L := Box.mk (L.out.below b3)
          replace BW := Box.mk (BW.out.trans (b3.mono BW.out.size))
          obtain ⟨y, hy⟩ : ∃ y : UInt8, y.toNat = 41 + b := ⟨UInt8.ofNat (41 + b), by simp; omega⟩
          have oz : OwnB ((w3.alloc (.cells (keyC k0).toArray 26)).alloc (.cells #[.int .u8 (41 + (b : Int))] 5)) (w3.heap.size + 1) (.slice (some ⟨w3.heap.size + 1, 0, none⟩) 1 1) [y] := by
            have h1 := OwnV.new (w3.alloc (.cells (keyC k0).toArray 26)) (w3.heap.size + 1) 5 (w3.heap.size + 1) [.int .u8 (41 + (b : Int))] (by simp) (Nat.le_refl _) (by unfold maxLen; simp)
            have h2 : bC [y] = [.int .u8 (41 + (b : Int))] := by unfold bC; show [Value.int .u8 ((y.toNat : Nat) : Int)] = _; rw [hy]; simp
            show OwnV _ _ _ _ (bC [y])
            rw [h2]
            exact h1
          have hcv := run_string_own oz
          have hbw : ((41 : Int) + (b : Int)) % 256 = 41 + (b : Int) := by omega
          replace oz := Box.mk oz
          have hdR : decR [0, 0, 0, 0, y] = .error 51 := decR_many (by omega) (by omega)
          replace hdR := Box.mk hdR
          have BZ := (BW.out.alloc BW.out.size (.cells (keyC k0).toArray 26)).alloc (by have := BW.out.size; simp; omega) (.cells #[.int .u8 (41 + (b : Int))] 5)
          replace hy := Box.mk hy
          go_wp2_with fail
          clear hcv
          generalize (w3.alloc (.cells (keyC k0).toArray 26)).alloc (.cells #[.int .u8 (41 + (b : Int))] 5) = wz at *
          refine (decode_any [0, 0, 0, 0, y] wz (by simp)).mono ?_
          rw [hdR.out]
          rintro e w5 ⟨rfl, b5⟩
          have B5 := BZ.trans (b5.mono BZ.size)
          have B6 := B5.alloc B5.size (.cells (txC zeroTx).toArray 29)
          go_wp2_with fail
          generalize w5.alloc (.cells (txC zeroTx).toArray 29) = w6 at *
          refine (shown05 _).mono ?_
          rintro e w7 ⟨rfl, b7⟩
          go_wp2
          go_ret
          exact gives_bool (by first | rfl | simp [g40, g41]) (B6.trans (b7.mono B6.size))
        · have hE : encV d = (encB d, 0) := encV_well ⟨by rw [hmany]; exact decide_eq_false h40, fun _ => hz⟩
          have hw : wellB d := ⟨by rw [hmany]; exact decide_eq_false h40, fun _ => hz⟩
          have hN := nameV_ok hE
          have g40 : ¬ (40 : Int) < (j : Int) := by omega
          have g41 : (j : Int) ≤ 40 := by omega
          obtain ⟨s0, hs0⟩ : ∃ s, s = encB d := ⟨_, rfl⟩
          obtain ⟨k0, hk0⟩ : ∃ s, s = doubleK (encB d) := ⟨_, rfl⟩
          rw [← hs0] at hE
          rw [← hk0] at hN
          replace hE := Box.mk hE
          replace hN := Box.mk hN
          replace hs0 := Box.mk hs0
          replace hk0 := Box.mk hk0
          replace hmany := Box.mk hmany
          replace hz := Box.mk hz
          replace hw := Box.mk hw
          have R_t := tx_row K_t.out
          have S_t := (Array.getElem?_eq_some_iff.1 K_t.out).1
          have hge : ¬ (j : Int) < (j : Int) := by omega
          go_wp2_with fail
          refine (encode_any t d _ L.out).mono ?_
          rintro e w2 ⟨rfl, b2⟩
          rw [hE.out]
          unfold valE
          clear R_t
          clear S_t
          replace K_t := Box.mk (keepBlock b2 K_t.out)
          replace L := Box.mk (L.out.below b2)
          replace BW := Box.mk (BW.out.trans (b2.mono BW.out.size))
          have R_t := tx_row K_t.out
          have S_t := (Array.getElem?_eq_some_iff.1 K_t.out).1
          go_wp2_with fail
          refine (id_any t d _ L.out).mono ?_
          rintro e w3 ⟨rfl, b3⟩
          rw [hN.out]
          unfold valNm
          clear R_t
          clear S_t
          replace K_t := Box.mk (keepBlock b3 K_t.out)
          replace L := Box.mk (L.out.below b3)
          replace BW := Box.mk (BW.out.trans (b3.mono BW.out.size))
          obtain ⟨y, hy⟩ : ∃ y : UInt8, y.toNat = 41 + b := ⟨UInt8.ofNat (41 + b), by simp; omega⟩
          have oz : OwnB ((w3.alloc (.cells (keyC k0).toArray 26)).alloc (.cells #[.int .u8 (41 + (b : Int))] 5)) (w3.heap.size + 1) (.slice (some ⟨w3.heap.size + 1, 0, none⟩) 1 1) [y] := by
            have h1 := OwnV.new (w3.alloc (.cells (keyC k0).toArray 26)) (w3.heap.size + 1) 5 (w3.heap.size + 1) [.int .u8 (41 + (b : Int))] (by simp) (Nat.le_refl _) (by unfold maxLen; simp)
            have h2 : bC [y] = [.int .u8 (41 + (b : Int))] := by unfold bC; show [Value.int .u8 ((y.toNat : Nat) : Int)] = _; rw [hy]; simp
            show OwnV _ _ _ _ (bC [y])
            rw [h2]
            exact h1
          have hcv := run_string_own oz
          have hbw : ((41 : Int) + (b : Int)) % 256 = 41 + (b : Int) := by omega
          replace oz := Box.mk oz
          have hdR : decR [0, 0, 0, 0, y] = .error 51 := decR_many (by omega) (by omega)
          replace hdR := Box.mk hdR
          have BZ := (BW.out.alloc BW.out.size (.cells (keyC k0).toArray 26)).alloc (by have := BW.out.size; simp; omega) (.cells #[.int .u8 (41 + (b : Int))] 5)
          replace hy := Box.mk hy
          go_wp2_with fail
          clear hcv
          generalize (w3.alloc (.cells (keyC k0).toArray 26)).alloc (.cells #[.int .u8 (41 + (b : Int))] 5) = wz at *
          refine (decode_any [0, 0, 0, 0, y] wz (by simp)).mono ?_
          rw [hdR.out]
          rintro e w5 ⟨rfl, b5⟩
          have B5 := BZ.trans (b5.mono BZ.size)
          have B6 := B5.alloc B5.size (.cells (txC zeroTx).toArray 29)
          go_wp2_with fail
          generalize w5.alloc (.cells (txC zeroTx).toArray 29) = w6 at *
          refine (shown05 _).mono ?_
          rintro e w7 ⟨rfl, b7⟩
          go_wp2
          go_ret
          exact gives_bool (by first | rfl | simp [g40, g41]) (B6.trans (b7.mono B6.size))
  · go_enter Try.func10, Try.ntmps10
    go_wp2_with fail
    generalize (W.alloc (.cells (keyC k).toArray 26)).alloc (.cells (txC zeroTx).toArray 29) = w0 at *
    go_loopw [9] (fun i wr => Below W.heap.size W wr ∧ W.heap.size + 2 ≤ wr.heap.size ∧ ∃ j : Nat, j ≤ m ∧ i = .int .i64 j ∧ wr.heap[W.heap.size]? = some (.cells (keyC k).toArray 26 (0, 0)) ∧ ∃ u c, wr.heap[W.heap.size + 1]? = some (.cells (txC { zeroTx with notes := ⟨u, j, c⟩ }).toArray 29 (0, 0)) ∧ Own keyC 32 26 wr (W.heap.size + 2) (.slice u j c) (List.replicate j k)) (fun i _ => m - (intOf i).toNat)
    case atStart => exact ⟨hB0, by omega, 0, Nat.zero_le _, rfl, KK, none, 0, KT, Own.nil _ _ _ _ _⟩
    case round =>
      clear hB0 KK KT z0
      obtain ⟨BW, zw, j, hj, rfl, KK, u, c, KT, hown⟩ := hrel
      by_cases hlt : j < m
      · have hlt' : (j : Int) < (m : Int) := by omega
        obtain ⟨t0, t1, t2, t3, t4, t5, t6, t7⟩ := tx_all KT
        have rk := key_row' KK
        have sk : W.heap.size < wr.heap.size := by omega
        have KTb := Box.mk KT
        have KKb := Box.mk KK
        have hownb := Box.mk hown
        clear KK KT hown
        go_wp2_with fail
        obtain ⟨u', c', w6, hap, own6, b6, z6⟩ := rapp_key (ty := 27) hownb.out (by omega) k (by rw [List.length_replicate]; omega)
        rw [List.length_replicate] at hap own6
        rw [← List.replicate_succ'] at own6
        rw [hap]
        replace hap := Box.mk hap
        clear t0 t1 t2 t3 t4 t5 t6 t7 rk sk
        have KT6 : w6.heap[W.heap.size + 1]? = _ := (b6.block _ (by omega)).trans KTb.out
        have KK6 : w6.heap[W.heap.size]? = _ := (b6.block _ (by omega)).trans KKb.out
        have KT7 := heap_setCell_txC KT6 36 (.slice u' (j + 1) c')
        rw [txC_set36] at KT7
        have KK7 : (w6.setCell ⟨W.heap.size + 1, 36, none⟩ (.slice u' (j + 1) c')).heap[W.heap.size]? = _ := (heap_setCell_ne' (by omega) _).trans KK6
        have own7 : Own keyC 32 26 (w6.setCell ⟨W.heap.size + 1, 36, none⟩ (.slice u' (j + 1) c')) (W.heap.size + 2) (.slice u' (j + 1) c') _ := own6.congr (fun g hg hl => heap_setCell_ne' (by omega) _)
        have B7 : Below W.heap.size W (w6.setCell ⟨W.heap.size + 1, 36, none⟩ (.slice u' (j + 1) c')) := Below.setCell (BW.trans (b6.mono (by omega))) (Nat.le_succ _) _
        have z7 : (w6.setCell ⟨W.heap.size + 1, 36, none⟩ (.slice u' (j + 1) c')).heap.size = w6.heap.size := by simp [World.setCell]
        obtain ⟨t0, t1, t2, t3, t4, t5, t6, t7⟩ := tx_all KT6
        have fz := fun o => frozen_of_row w6 (W.heap.size + 1) o _ _ KT6
        replace KT6 := Box.mk KT6
        replace KK6 := Box.mk KK6
        replace KT7 := Box.mk KT7
        replace KK7 := Box.mk KK7
        replace own6 := Box.mk own6
        replace own7 := Box.mk own7
        replace z7 := Box.mk z7
        go_wp2
        go_roundw
        case rel => exact ⟨B7, by have := z7.out; omega, j + 1, by omega, by go_num, KK7.out, u', c', KT7.out, own7.out⟩
        case measure => simp [intOf]; omega
      · obtain rfl : j = m := by omega
        obtain ⟨t, ht⟩ : ∃ t, { zeroTx with notes := ⟨u, j, c⟩ } = t := ⟨_, rfl⟩
        obtain ⟨d, hd⟩ : ∃ d, { zeroD with notes := List.replicate j k } = d := ⟨_, rfl⟩
        have L : TxL wr t d := by
          rw [← ht, ← hd]
          exact ⟨SL.nil _ _ _, SL.nil _ _ _, SL.nil _ _ _, hown.sl'.2, (fun p hp => nomatch hp), (fun p hp => nomatch hp), ⟨rfl, by show (0 : Int) ≤ 0; omega, by show (0 : Int) ≤ 4294967295; omega⟩, rfl, ⟨rfl, by show (-9223372036854775808 : Int) ≤ 0; omega, by show (0 : Int) ≤ 9223372036854775807; omega⟩⟩
        have hmany : manyB d = decide (40 < j) := by rw [← hd]; unfold manyB; simp [zeroD, List.length_replicate]
        have hz : d.anchor = zeroKey := by rw [← hd]; rfl
        rw [ht] at KT
        have K_t := Box.mk KT
        replace L := Box.mk L
        replace BW := Box.mk BW
        replace ht := Box.mk ht
        replace hd := Box.mk hd
        clear KT hown KK
        skip
        skip
        by_cases h40 : 40 < j
        · have hE : encV d = ([], 51) := by unfold encV; rw [hmany, decide_eq_true h40, if_pos rfl]
          have hN := nameV_err hE (by omega)
          have g40 : (40 : Int) < (j : Int) := by omega
          have g41 : ¬ (j : Int) ≤ 40 := by omega
          obtain ⟨s0, hs0⟩ : ∃ s, s = ([] : List UInt8) := ⟨_, rfl⟩
          obtain ⟨k0, hk0⟩ : ∃ s, s = zeroKey := ⟨_, rfl⟩
          rw [← hs0] at hE
          rw [← hk0] at hN
          replace hE := Box.mk hE
          replace hN := Box.mk hN
          replace hs0 := Box.mk hs0
          replace hk0 := Box.mk hk0
          replace hmany := Box.mk hmany
          replace hz := Box.mk hz
          have R_t := tx_row K_t.out
          have S_t := (Array.getElem?_eq_some_iff.1 K_t.out).1
          have hge : ¬ (j : Int) < (j : Int) := by omega
          go_wp2_with fail
          refine (encode_any t d _ L.out).mono ?_
          rintro e w2 ⟨rfl, b2⟩
          rw [hE.out]
          unfold valE
          clear R_t
          clear S_t
          replace K_t := Box.mk (keepBlock b2 K_t.out)
          replace L := Box.mk (L.out.below b2)
          replace BW := Box.mk (BW.out.trans (b2.mono BW.out.size))
          have R_t := tx_row K_t.out
          have S_t := (Array.getElem?_eq_some_iff.1 K_t.out).1
          go_wp2_with fail
          refine (id_any t d _ L.out).mono ?_
          rintro e w3 ⟨rfl, b3⟩
          rw [hN.out]
          unfold valNm
          clear R_t
          clear S_t
          replace K_t := Box.mk (keepBlock b3 K_t.out)
          replace L := Box.mk (L.out.below b3)
          replace BW := Box.mk (BW.out.trans (b3.mono BW.out.size))
          obtain ⟨y, hy⟩ : ∃ y : UInt8, y.toNat = 41 + b := ⟨UInt8.ofNat (41 + b), by simp; omega⟩
          have oz : OwnB ((w3.alloc (.cells (keyC k0).toArray 26)).alloc (.cells #[.int .u8 (41 + (b : Int))] 5)) (w3.heap.size + 1) (.slice (some ⟨w3.heap.size + 1, 0, none⟩) 1 1) [y] := by
            have h1 := OwnV.new (w3.alloc (.cells (keyC k0).toArray 26)) (w3.heap.size + 1) 5 (w3.heap.size + 1) [.int .u8 (41 + (b : Int))] (by simp) (Nat.le_refl _) (by unfold maxLen; simp)
            have h2 : bC [y] = [.int .u8 (41 + (b : Int))] := by unfold bC; show [Value.int .u8 ((y.toNat : Nat) : Int)] = _; rw [hy]; simp
            show OwnV _ _ _ _ (bC [y])
            rw [h2]
            exact h1
          have hcv := run_string_own oz
          have hbw : ((41 : Int) + (b : Int)) % 256 = 41 + (b : Int) := by omega
          replace oz := Box.mk oz
          have hdR : decR [0, 0, 0, 0, y] = .error 51 := decR_many (by omega) (by omega)
          replace hdR := Box.mk hdR
          have BZ := (BW.out.alloc BW.out.size (.cells (keyC k0).toArray 26)).alloc (by have := BW.out.size; simp; omega) (.cells #[.int .u8 (41 + (b : Int))] 5)
          replace hy := Box.mk hy
          go_wp2_with fail
          clear hcv
          generalize (w3.alloc (.cells (keyC k0).toArray 26)).alloc (.cells #[.int .u8 (41 + (b : Int))] 5) = wz at *
          refine (decode_any [0, 0, 0, 0, y] wz (by simp)).mono ?_
          rw [hdR.out]
          rintro e w5 ⟨rfl, b5⟩
          have B5 := BZ.trans (b5.mono BZ.size)
          have B6 := B5.alloc B5.size (.cells (txC zeroTx).toArray 29)
          go_wp2_with fail
          generalize w5.alloc (.cells (txC zeroTx).toArray 29) = w6 at *
          refine (shown05 _).mono ?_
          rintro e w7 ⟨rfl, b7⟩
          go_wp2
          go_ret
          exact gives_bool (by first | rfl | simp [g40, g41]) (B6.trans (b7.mono B6.size))
        · have hE : encV d = (encB d, 0) := encV_well ⟨by rw [hmany]; exact decide_eq_false h40, fun _ => hz⟩
          have hw : wellB d := ⟨by rw [hmany]; exact decide_eq_false h40, fun _ => hz⟩
          have hN := nameV_ok hE
          have g40 : ¬ (40 : Int) < (j : Int) := by omega
          have g41 : (j : Int) ≤ 40 := by omega
          obtain ⟨s0, hs0⟩ : ∃ s, s = encB d := ⟨_, rfl⟩
          obtain ⟨k0, hk0⟩ : ∃ s, s = doubleK (encB d) := ⟨_, rfl⟩
          rw [← hs0] at hE
          rw [← hk0] at hN
          replace hE := Box.mk hE
          replace hN := Box.mk hN
          replace hs0 := Box.mk hs0
          replace hk0 := Box.mk hk0
          replace hmany := Box.mk hmany
          replace hz := Box.mk hz
          replace hw := Box.mk hw
          have R_t := tx_row K_t.out
          have S_t := (Array.getElem?_eq_some_iff.1 K_t.out).1
          have hge : ¬ (j : Int) < (j : Int) := by omega
          go_wp2_with fail
          refine (encode_any t d _ L.out).mono ?_
          rintro e w2 ⟨rfl, b2⟩
          rw [hE.out]
          unfold valE
          clear R_t
          clear S_t
          replace K_t := Box.mk (keepBlock b2 K_t.out)
          replace L := Box.mk (L.out.below b2)
          replace BW := Box.mk (BW.out.trans (b2.mono BW.out.size))
          have R_t := tx_row K_t.out
          have S_t := (Array.getElem?_eq_some_iff.1 K_t.out).1
          go_wp2_with fail
          refine (id_any t d _ L.out).mono ?_
          rintro e w3 ⟨rfl, b3⟩
          rw [hN.out]
          unfold valNm
          clear R_t
          clear S_t
          replace K_t := Box.mk (keepBlock b3 K_t.out)
          replace L := Box.mk (L.out.below b3)
          replace BW := Box.mk (BW.out.trans (b3.mono BW.out.size))
          obtain ⟨y, hy⟩ : ∃ y : UInt8, y.toNat = 41 + b := ⟨UInt8.ofNat (41 + b), by simp; omega⟩
          have oz : OwnB ((w3.alloc (.cells (keyC k0).toArray 26)).alloc (.cells #[.int .u8 (41 + (b : Int))] 5)) (w3.heap.size + 1) (.slice (some ⟨w3.heap.size + 1, 0, none⟩) 1 1) [y] := by
            have h1 := OwnV.new (w3.alloc (.cells (keyC k0).toArray 26)) (w3.heap.size + 1) 5 (w3.heap.size + 1) [.int .u8 (41 + (b : Int))] (by simp) (Nat.le_refl _) (by unfold maxLen; simp)
            have h2 : bC [y] = [.int .u8 (41 + (b : Int))] := by unfold bC; show [Value.int .u8 ((y.toNat : Nat) : Int)] = _; rw [hy]; simp
            show OwnV _ _ _ _ (bC [y])
            rw [h2]
            exact h1
          have hcv := run_string_own oz
          have hbw : ((41 : Int) + (b : Int)) % 256 = 41 + (b : Int) := by omega
          replace oz := Box.mk oz
          have hdR : decR [0, 0, 0, 0, y] = .error 51 := decR_many (by omega) (by omega)
          replace hdR := Box.mk hdR
          have BZ := (BW.out.alloc BW.out.size (.cells (keyC k0).toArray 26)).alloc (by have := BW.out.size; simp; omega) (.cells #[.int .u8 (41 + (b : Int))] 5)
          replace hy := Box.mk hy
          go_wp2_with fail
          clear hcv
          generalize (w3.alloc (.cells (keyC k0).toArray 26)).alloc (.cells #[.int .u8 (41 + (b : Int))] 5) = wz at *
          refine (decode_any [0, 0, 0, 0, y] wz (by simp)).mono ?_
          rw [hdR.out]
          rintro e w5 ⟨rfl, b5⟩
          have B5 := BZ.trans (b5.mono BZ.size)
          have B6 := B5.alloc B5.size (.cells (txC zeroTx).toArray 29)
          go_wp2_with fail
          generalize w5.alloc (.cells (txC zeroTx).toArray 29) = w6 at *
          refine (shown05 _).mono ?_
          rintro e w7 ⟨rfl, b7⟩
          go_wp2
          go_ret
          exact gives_bool (by first | rfl | simp [g40, g41]) (B6.trans (b7.mono B6.size))

end Go.Proofs.Ytfnlgihkofkibaa
