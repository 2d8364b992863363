/- Layer 6: the document's Decode. (printed by mkrefblkdec.py) -/
import Derived.Test.YtahkiabpjfcfdaaBlkDec3
namespace Go.Proofs.Ytahkiabpjfcfdaa
open Go.RowKit
set_option linter.unusedVariables false
set_option linter.unusedSimpArgs false
set_option maxRecDepth 100000

def buildBlk012To (P : Program) (w : World) (u v x : Value) : Result Next := (do pure (.value (← Instr.build 50 #[(0, u), (1, v), (2, x)])) : Sem Next).run P w
theorem build_blk012 (ρ : Operand → Value) (dst : Option Tmp) (x y z : Operand) (t : TypeId) (pos : String) (after : Array Edge) (guard : Option (Nat × Bool)) (w : World) :
    (execOp ρ ⟨dst, .build 50 #[(0, x), (1, y), (2, z)], t, pos, after, guard⟩).run Try.prog w = buildBlk012To Try.prog w (ρ x) (ρ y) (ρ z) := by simp [execOp, buildBlk012To]
theorem run_build_blk012 (p q : Key) (n : Int) (w : World) : (Instr.build 50 #[(0, Value.agg (keyC p).toArray), (1, Value.agg (keyC q).toArray), (2, Value.int .u32 n)]).run Try.prog w = .ok (.agg (blkC ⟨p, q, n, .nil⟩).toArray) w := by
  obtain ⟨b0, b1, b2, b3, b4, b5, b6, b7, b8, b9, b10, b11, b12, b13, b14, b15, b16, b17, b18, b19, b20, b21, b22, b23, b24, b25, b26, b27, b28, b29, b30, b31, h⟩ := list32' (keyC p) (keyC_length p)
  obtain ⟨c0, c1, c2, c3, c4, c5, c6, c7, c8, c9, c10, c11, c12, c13, c14, c15, c16, c17, c18, c19, c20, c21, c22, c23, c24, c25, c26, c27, c28, c29, c30, c31, h2⟩ := list32' (keyC q) (keyC_length q)
  unfold blkC
  show (Instr.build 50 #[(0, Value.agg (keyC p).toArray), (1, Value.agg (keyC q).toArray), (2, Value.int .u32 n)]).run Try.prog w = .ok (Value.agg (keyC p ++ (keyC q ++ [Value.int .u32 n, Value.slice none 0 0])).toArray) w
  rw [h, h2]
  kernel_rfl
@[go_sem] theorem buildBlk012To_lit (p q : Key) (n : Int) (w : World) : buildBlk012To Try.prog w (Value.agg (keyC p).toArray) (Value.agg (keyC q).toArray) (Value.int .u32 n) = .ok (.value (.agg (blkC ⟨p, q, n, .nil⟩).toArray)) w := by
  unfold buildBlk012To
  rw [Sem.run_bind, run_build_blk012]
  rfl

attribute [local irreducible] Int.lt Int.le
attribute [local go_sem ↓] load_key store_key alloc_key build0_key eq_key load_tx store_tx alloc_tx build0_tx load_blk store_blk alloc_blk build0_blk append_tx one_tx build_blk012
attribute [local go_sem] rowOf_drew rowOf_alloc_old rowOf_alloc_new canPut_drew canPut_alloc_old canPut_alloc_new setCells_alloc_new

set_option maxHeartbeats 8000000 in
theorem rdecode6_any (s : List UInt8) (W : World) (hs : s.length ≤ 1000000) : Calls Try.prog 33 #[.string (sB s)] W (BlkTo W (blkRd s)) := by
  have K0 := heap_alloc_new W (.cells (blkC zeroBlk).toArray 50)
  have B0 : Below W.heap.size W (W.alloc (.cells (blkC zeroBlk).toArray 50)) := (Below.refl _ _).alloc (Nat.le_refl _) _
  have s0 : (W.alloc (.cells (blkC zeroBlk).toArray 50)).heap.size = W.heap.size + 1 := by simp
  obtain ⟨o, ho⟩ : ∃ o, blkRd s = o := ⟨_, rfl⟩
  rw [ho]
  have fin : ∀ (w1 : World) (v : BlkV), w1.heap[W.heap.size]? = some (.cells (blkC zeroBlk).toArray 50 (0, 0)) → Below W.heap.size W w1 → rowOf (w1.setCells W.heap.size 0 (blkC v)) W.heap.size 0 66 = some (blkC v) ∧ Below W.heap.size W (w1.setCells W.heap.size 0 (blkC v)) ∧ canPut w1 W.heap.size 0 66 = true ∧ W.heap.size < w1.heap.size := fun w1 v h hb =>
    ⟨row66_put h v, below_setCells (Nat.le_refl _) _ _ _ _ hb, canPut_block h 0 66 (by simp [blkC_length]), (Array.getElem?_eq_some_iff.1 h).1⟩
  replace fin := Box.mk fin
  replace ho := Box.mk ho
  go_enter Try.func33, Try.ntmps33
  go_wp2_with fail
  generalize W.alloc (.cells (blkC zeroBlk).toArray 50) = w0 at *
  replace s0 := Box.mk s0
  have hs' := Box.mk hs
  refine (refKey_any s w0 (by omega)).mono ?_
  rintro e w1 ⟨rfl, b1⟩
  have K1 := keepBlock b1 K0
  have B1 := B0.trans (b1.mono (by have := B0.size; omega))
  rcases hk1 : keyR s with x | ⟨p, r1⟩
  · obtain ⟨hV, rfl⟩ := keyV_err hk1
    have hO := Box.mk (show o = .error 30 by rw [← ho.out]; exact blkP_e0 hk1)
    rw [hV]
    unfold valK
    replace hV := Box.mk hV
    replace hk1 := Box.mk hk1
    have b1b : Below w1.heap.size w1 (w1.alloc (.cells (keyC zeroKey).toArray 38)) := (Below.refl _ _).alloc (Nat.le_refl _) _
    have Kf := keepBlock b1b K1
    have Bf := B1.trans (b1b.mono (by have := B1.size; omega))
    obtain ⟨f1, f2, f3, f4⟩ := fin.out _ zeroBlk Kf Bf
    replace f1 := Box.mk f1
    replace f2 := Box.mk f2
    replace Kf := Box.mk Kf
    replace Bf := Box.mk Bf
    obtain ⟨_, _, f5, f6⟩ := fin.out _ zeroBlk K1 B1
    go_wp2_with fail
    refine bodyPost_ret (v := .tuple #[.agg (blkC zeroBlk).toArray, .int .i64 30]) (res2 Try.results33 (res_blk (b := W.heap.size) (o := 0) (by simp [go_sem]) f1.out) (v2 := .int .i64 30) (by simp [oneRes]; try rfl)) rfl ?_
    exact BlkTo.err hO.out (by omega) f2.out
  · have hV := keyV_ok hk1
    rw [hV]
    unfold valK
    replace hV := Box.mk hV
    have g1 : Sg1 s p r1 := ⟨hk1⟩
    have l1 := g1.le
    replace hk1 := Box.mk hk1
    have b1b : Below w1.heap.size w1 (w1.alloc (.cells (keyC p).toArray 38)) := (Below.refl _ _).alloc (Nat.le_refl _) _
    have A1b := heap_alloc_new w1 (.cells (keyC p).toArray 38)
    have z1 : (w1.alloc (.cells (keyC p).toArray 38)).heap.size = w1.heap.size + 1 := by simp
    have K1b := keepBlock b1b K1
    have B1b := B1.trans (b1b.mono (by have := B1.size; omega))
    replace K1 := Box.mk K1
    replace B1 := Box.mk B1
    go_wp2_with fail
    generalize w1.alloc (.cells (keyC p).toArray 38) = w1b at *
    replace b1 := Box.mk b1
    replace b1b := Box.mk b1b
    refine (refKey_any r1 w1b (by omega)).mono ?_
    rintro e w2 ⟨rfl, b2⟩
    have K2 := keepBlock b2 K1b
    have B2 := B1b.trans (b2.mono (by have := B1b.size; omega))
    have A2 := keepBlock b2 A1b
    rcases hk2 : keyR r1 with x | ⟨q, r2⟩
    · obtain ⟨hV, rfl⟩ := keyV_err hk2
      have hO := Box.mk (show o = .error 30 by rw [← ho.out]; exact blkP_e1 g1 hk2)
      rw [hV]
      unfold valK
      replace hV := Box.mk hV
      replace hk2 := Box.mk hk2
      have b2b : Below w2.heap.size w2 (w2.alloc (.cells (keyC zeroKey).toArray 38)) := (Below.refl _ _).alloc (Nat.le_refl _) _
      have Kf := keepBlock b2b K2
      have Bf := B2.trans (b2b.mono (by have := B2.size; omega))
      obtain ⟨f1, f2, f3, f4⟩ := fin.out _ zeroBlk Kf Bf
      replace f1 := Box.mk f1
      replace f2 := Box.mk f2
      replace Kf := Box.mk Kf
      replace Bf := Box.mk Bf
      obtain ⟨_, _, f5, f6⟩ := fin.out _ zeroBlk K2 B2
      go_wp2_with fail
      refine bodyPost_ret (v := .tuple #[.agg (blkC zeroBlk).toArray, .int .i64 30]) (res2 Try.results33 (res_blk (b := W.heap.size) (o := 0) (by simp [go_sem]) f1.out) (v2 := .int .i64 30) (by simp [oneRes]; try rfl)) rfl ?_
      exact BlkTo.err hO.out (by omega) f2.out
    · have hV := keyV_ok hk2
      rw [hV]
      unfold valK
      replace hV := Box.mk hV
      have g2 : Sg2 s p q r2 := ⟨_, hk1.out, hk2⟩
      have l2 := g2.le
      replace hk2 := Box.mk hk2
      have b2b : Below w2.heap.size w2 (w2.alloc (.cells (keyC q).toArray 38)) := (Below.refl _ _).alloc (Nat.le_refl _) _
      have A2c := heap_alloc_new w2 (.cells (keyC q).toArray 38)
      have z2 : (w2.alloc (.cells (keyC q).toArray 38)).heap.size = w2.heap.size + 1 := by simp
      have K2b := keepBlock b2b K2
      have B2b := B2.trans (b2b.mono (by have := B2.size; omega))
      have A2b := keepBlock b2b A2
      replace A2 := Box.mk A2
      replace K2 := Box.mk K2
      replace B2 := Box.mk B2
      go_wp2_with fail
      generalize w2.alloc (.cells (keyC q).toArray 38) = w2b at *
      replace b2 := Box.mk b2
      replace b2b := Box.mk b2b
      refine (refGet_any r2 4 w2b).mono ?_
      rintro e w3 ⟨rfl, b3⟩
      have K3 := keepBlock b3 K2b
      have B3 := B2b.trans (b3.mono (by have := B2b.size; omega))
      have A3 := keepBlock b3 A2b
      have C3 := keepBlock b3 A2c
      rcases hk3 : numR 4 r2 with x | ⟨n, r3⟩
      · obtain ⟨hV, rfl⟩ := getV_err (by omega) (by omega) hk3
        have hO := Box.mk (show o = .error 30 by rw [← ho.out]; exact blkP_e2 g2 hk3)
        rw [show ((4 : Int)) = ((4 : Nat) : Int) from rfl, hV]
        simp only [val3]
        replace hV := Box.mk hV
        replace hk3 := Box.mk hk3
        obtain ⟨f1, f2, f3, f4⟩ := fin.out w3 zeroBlk K3 B3
        replace f1 := Box.mk f1
        replace f2 := Box.mk f2
        go_wp2_with fail
        refine bodyPost_ret (v := .tuple #[.agg (blkC zeroBlk).toArray, .int .i64 30]) (res2 Try.results33 (res_blk (b := W.heap.size) (o := 0) (by simp [go_sem]) f1.out) (v2 := .int .i64 30) (by simp [oneRes]; try rfl)) rfl ?_
        exact BlkTo.err hO.out (by omega) f2.out
      · have hV := getV_ok (by omega) (by omega) hk3
        have g3 : Sg3 s p q n r3 := ⟨_, g2, hk3⟩
        have l3 := g3.le
        have hn := g3.lt
        rw [show ((4 : Int)) = ((4 : Nat) : Int) from rfl, hV]
        simp only [val3]
        replace hV := Box.mk hV
        replace hk3 := Box.mk hk3
        replace b3 := Box.mk b3
        replace K2b := Box.mk K2b
        replace B2b := Box.mk B2b
        replace A2b := Box.mk A2b
        replace A2c := Box.mk A2c
        go_wp2_with fail
        refine (refRead_any r3 w3 (by omega)).mono ?_
        rintro e w4 ⟨rfl, b4⟩
        have K4 := keepBlock b4 K3
        have B4 := B3.trans (b4.mono (by have := B3.size; omega))
        have A4 := keepBlock b4 A3
        have C4 := keepBlock b4 C3
        obtain ⟨m, r4, x, hv⟩ : ∃ m r x, readV r3 = (m, r, x) := ⟨_, _, _, rfl⟩
        rw [hv]
        simp only [val3]
        replace b4 := Box.mk b4
        replace K3 := Box.mk K3
        replace B3 := Box.mk B3
        replace A3 := Box.mk A3
        replace C3 := Box.mk C3
        by_cases hx : x = 0
        · subst hx
          by_cases h0 : m = 0
          · have hO := Box.mk (show o = .error 110 by rw [← ho.out]; exact blkP_e3 g3 (by have := cmpR_err hv (by unfold cmpX; rw [if_pos rfl, if_pos h0]; omega); rw [this]; unfold cmpX; rw [if_pos rfl, if_pos h0]))
            have h0' : ((m : Int) == 0) = true := by simpa using h0
            replace h0 := Box.mk h0
            replace hv := Box.mk hv
            obtain ⟨f1, f2, f3, f4⟩ := fin.out w4 zeroBlk K4 B4
            replace f1 := Box.mk f1
            replace f2 := Box.mk f2
            go_wp2_with fail
            refine bodyPost_ret (v := .tuple #[.agg (blkC zeroBlk).toArray, .int .i64 110]) (res2 Try.results33 (res_blk (b := W.heap.size) (o := 0) (by simp [go_sem]) f1.out) (v2 := .int .i64 110) (by simp [oneRes]; try rfl)) rfl ?_
            exact BlkTo.err hO.out (by omega) f2.out
          · have h0' : ((m : Int) == 0) = false := by simpa using h0
            by_cases h3 : 30 < m
            · have hO := Box.mk (show o = .error 51 by rw [← ho.out]; exact blkP_e3 g3 (by have := cmpR_err hv (by unfold cmpX; rw [if_pos rfl, if_neg h0, if_pos h3]; omega); rw [this]; unfold cmpX; rw [if_pos rfl, if_neg h0, if_pos h3]))
              have h3' : (30 : Int) < m := by omega
              replace h0 := Box.mk h0
              replace hv := Box.mk hv
              obtain ⟨f1, f2, f3, f4⟩ := fin.out w4 zeroBlk K4 B4
              replace f1 := Box.mk f1
              replace f2 := Box.mk f2
              go_wp2_with fail
              refine bodyPost_ret (v := .tuple #[.agg (blkC zeroBlk).toArray, .int .i64 51]) (res2 Try.results33 (res_blk (b := W.heap.size) (o := 0) (by simp [go_sem]) f1.out) (v2 := .int .i64 51) (by simp [oneRes]; try rfl)) rfl ?_
              exact BlkTo.err hO.out (by omega) f2.out
            · have h3' : ¬ (30 : Int) < m := by omega
              have g4 : Sg4 s p q n m r4 := ⟨_, g3, cmpR_ok hv (by unfold cmpX; rw [if_pos rfl, if_neg h0, if_neg h3])⟩
              have l4 := g4.le
              have hn4 : (n : Int) % 4294967296 = n := by omega
              have hw : (IntKind.i64.wrap (m : Int)) = m := IntWalk.i64_in _ (by omega)
              replace h0 := Box.mk h0
              replace h3 := Box.mk h3
              replace hv := Box.mk hv
              obtain ⟨a1, ha1⟩ : ∃ a, w1.heap.size = a := ⟨_, rfl⟩
              obtain ⟨a2, ha2⟩ : ∃ a, w2.heap.size = a := ⟨_, rfl⟩
              rw [ha1] at A4
              rw [ha2] at C4
              rw [ha1, ha2]
              replace ha1 := Box.mk ha1
              replace ha2 := Box.mk ha2
              have p1 := key_row' A4
              have p2 := (Array.getElem?_eq_some_iff.1 A4).1
              have p3 := key_row' C4
              have p4 := (Array.getElem?_eq_some_iff.1 C4).1
              have b5 : Below w4.heap.size w4 (w4.alloc (.cells (blkC ⟨p, q, (n : Int), .nil⟩).toArray 50)) := (Below.refl _ _).alloc (Nat.le_refl _) _
              have V5 := heap_alloc_new w4 (.cells (blkC ⟨p, q, (n : Int), .nil⟩).toArray 50)
              have K5 := keepBlock b5 K4
              have B5 := B4.trans (b5.mono (by have := B4.size; omega))
              have z5 : (w4.alloc (.cells (blkC ⟨p, q, (n : Int), .nil⟩).toArray 50)).heap.size = w4.heap.size + 1 := by simp
              have r4lt := (Array.getElem?_eq_some_iff.1 K4).1
              replace A4 := Box.mk A4
              replace C4 := Box.mk C4
              replace K4 := Box.mk K4
              replace B4 := Box.mk B4
              replace b5 := Box.mk b5
              replace V5 := Box.mk V5
              replace K5 := Box.mk K5
              replace B5 := Box.mk B5
              replace z5 := Box.mk z5
              go_wp2_with fail
              clear p1 p2 p3 p4
              generalize w4.alloc (.cells (blkC ⟨p, q, (n : Int), .nil⟩).toArray 50) = w5 at *
              obtain ⟨a, ha⟩ : ∃ a, w4.heap.size = a := ⟨_, rfl⟩
              rw [ha] at V5 z5 r4lt ⊢
              replace ha := Box.mk ha
              obtain ⟨R, hR⟩ : ∃ R, W.heap.size = R := ⟨_, rfl⟩
              rw [hR] at K5 r4lt ⊢
              replace hR := Box.mk hR
              obtain ⟨T, hT⟩ : ∃ T, listR txR m r4 = T := ⟨_, rfl⟩
              have hT0 := Box.mk hT
              replace hT := Box.mk hT
              go_loopw [14, 17] (fun rv i wr => Below a w5 wr ∧ ∃ (j : Nat) (r : List UInt8) (u : Option Addr) (l c : Nat) (qs : List (TxV × TxD)), j ≤ m ∧ i = .int .i64 j ∧ rv = .string (sB r) ∧ wr.heap[a]? = some (.cells (blkC ⟨p, q, (n : Int), ⟨u, l, c⟩⟩).toArray 50 (0, 0)) ∧ TL (a + 1) wr (.slice u l c) qs ∧ qs.length = j ∧ r.length ≤ 1000000 ∧ behind (qs.map (·.2)) (listR txR (m - j) r) = T) (fun _ i _ => m - (intOf i).toNat)
              case atStart => exact ⟨Below.refl _ _, 0, r4, none, 0, 0, [], Nat.zero_le _, rfl, rfl, V5.out, TL.nil _ _, rfl, by omega, by rw [Nat.sub_zero, List.map_nil, behind_nil]; exact hT0.out⟩
              case round =>
                obtain ⟨hb, j, r, u, l, c, qs, hj, rfl, rfl, V, L, hqj, hr, hB⟩ := hrel
                have hws := hb.size
                have hz5 := z5.out
                have Kr := (hb.block R (by omega)).trans K5.out
                have Br := B5.out.trans (hb.mono (by have := hR.out; omega))
                by_cases hlt : j < m
                · have hlt' : (j : Int) < m := by omega
                  have hnj : m - j = (m - (j + 1)) + 1 := by omega
                  rw [hnj] at hB
                  rcases hx : txR r with x | ⟨d, r'⟩
                  · have hTx : T = .error x := by rw [← hB]; exact behind_error _ hx
                    have hO := Box.mk (show o = .error x by rw [← ho.out]; exact blkP_e4 g4 (by rw [hT.out, hTx]))
                    have hne := txR_errne hx
                    have hx2 : (x != 0) = true := by simpa using hne
                    have hcall := refTxRead_any r wr hr
                    rw [hx] at hcall
                    replace hTx := Box.mk hTx
                    replace hne := Box.mk hne
                    replace hx := Box.mk hx
                    replace hB := Box.mk hB
                    replace hcall := Box.mk hcall
                    replace V := Box.mk V
                    replace L := Box.mk L
                    clear hnj
                    go_wp2_with fail
                    refine hcall.out.mono ?_
                    rintro e w6 ⟨rfl, b6⟩
                    have b7 := b6.alloc b6.size (.cells (txC zeroTx).toArray 41)
                    have Kf := keepBlock b7 Kr
                    have Bf := since_next Br b7
                    have Kg := keepBlock b6 Kr
                    have Bg := since_next Br b6
                    rw [← hR.out]
                    rw [← hR.out] at Kf Kg
                    obtain ⟨f1, f2, f3, f4⟩ := fin.out _ zeroBlk Kf Bf
                    obtain ⟨_, _, f5, f6⟩ := fin.out _ zeroBlk Kg Bg
                    replace f1 := Box.mk f1
                    replace f2 := Box.mk f2
                    replace Kf := Box.mk Kf
                    replace Kg := Box.mk Kg
                    replace Bf := Box.mk Bf
                    replace Bg := Box.mk Bg
                    replace Kr := Box.mk Kr
                    replace Br := Box.mk Br
                    unfold valR
                    go_wp2_with fail
                    refine bodyPost_ret (v := .tuple #[.agg (blkC zeroBlk).toArray, .int .i64 x]) (res2 Try.results33 (res_blk (b := W.heap.size) (o := 0) (by simp [go_sem]) f1.out) (v2 := .int .i64 x) (by simp [oneRes]; try rfl)) rfl ?_
                    exact BlkTo.err hO.out hne.out f2.out
                  · have hB2 : behind ((qs.map (·.2)) ++ [d]) (listR txR (m - (j + 1)) r') = T := by rw [← hB]; exact (behind_ok _ hx).symm
                    have hle := txR_le hx
                    have hcall := refTxRead_any r wr hr
                    rw [hx] at hcall
                    replace hx := Box.mk hx
                    replace hB := Box.mk hB
                    replace hcall := Box.mk hcall
                    have hul : ∀ k, (Value.slice u l c).ownBlock = some k → k < wr.heap.size := fun k hk => by
                      cases u with
                      | none => cases hk
                      | some a => injection hk with hk; subst hk; exact (L.own.at a rfl).2
                    replace L := Box.mk L
                    replace hul := Box.mk hul
                    replace V := Box.mk V
                    replace Kr := Box.mk Kr
                    replace Br := Box.mk Br
                    clear hnj
                    go_wp2_with fail
                    refine hcall.out.mono ?_
                    rintro e w6 ⟨t, rfl, ht, b6⟩
                    have hA : Below w6.heap.size w6 (w6.alloc (.cells (txC t).toArray 41)) := (Below.refl _ _).alloc (Nat.le_refl _) _
                    have b7 := b6.alloc b6.size (.cells (txC t).toArray 41)
                    have R2 := tx_row (heap_alloc_new w6 (.cells (txC t).toArray 41))
                    have z6 : (w6.alloc (.cells (txC t).toArray 41)).heap.size = w6.heap.size + 1 := by simp
                    have zz := b6.size
                    have V6 := keepBlock b6 V.out
                    have V7 := keepBlock b7 V.out
                    have hA : Below w6.heap.size w6 (w6.alloc (.cells (txC t).toArray 41)) := (Below.refl _ _).alloc (Nat.le_refl _) _
                    have b7 := b6.alloc b6.size (.cells (txC t).toArray 41)
                    have R2 := tx_row (heap_alloc_new w6 (.cells (txC t).toArray 41))
                    have z6 : (w6.alloc (.cells (txC t).toArray 41)).heap.size = w6.heap.size + 1 := by simp
                    have zz := b6.size
                    have V6 := keepBlock b6 V.out
                    have V7 := keepBlock b7 V.out
                    obtain ⟨g, c', w8, hap, L8, b8, hg⟩ := (L.out.below b7).push (ty := 48) (ht.below hA) (by omega) hul.out (by omega) (by omega)
                    rw [z6] at hap
                    have V8 := (b8.block a (by omega)).trans V7
                    have V9 : (w8.setCell ⟨a, 65, none⟩ (.slice (some ⟨g, 0, none⟩) (qs.length + 1) c')).heap[a]? = some (.cells (blkC ⟨p, q, (n : Int), ⟨some ⟨g, 0, none⟩, qs.length + 1, c'⟩⟩).toArray 50 (0, 0)) := by
                      have := heap_setCell_blkC V8 65 (.slice (some ⟨g, 0, none⟩) (qs.length + 1) c')
                      rw [blkC_set65] at this
                      exact this
                    have B9 := Box.mk (((hb.trans (b7.mono (by omega))).trans (b8.mono (by omega))).setCell (p := ⟨a, 65, none⟩) (Nat.le_refl _) (.slice (some ⟨g, 0, none⟩) (qs.length + 1) c'))
                    have L9 := Box.mk (L8.congr (w' := w8.setCell ⟨a, 65, none⟩ (.slice (some ⟨g, 0, none⟩) (qs.length + 1) c')) (fun b h1 h2 => heap_setCell_ne' (by omega) _) (by simp [World.setCell]))
                    have q6 := (blk_all V6).2.2.2.2.2
                    have m6 := (blk_all V6).1
                    have q8 := (blk_all V8).2.2.2.2.2
                    have f8 := frozen_of_row w8 a 65 _ _ V8
                    have m8 := (blk_all V8).1
                    have n6 : w6.heap.size < w6.heap.size + 1 := by omega
                    replace V6 := Box.mk V6
                    replace V7 := Box.mk V7
                    replace V8 := Box.mk V8
                    replace V9 := Box.mk V9
                    replace L8 := Box.mk L8
                    replace b8 := Box.mk b8
                    replace b7 := Box.mk b7
                    replace b6 := Box.mk b6
                    replace hA := Box.mk hA
                    replace ht := Box.mk ht
                    replace hB2 := Box.mk hB2
                    replace hqj := Box.mk hqj
                    unfold valR
                    go_wp2
                    go_roundw
                    case rel => exact ⟨B9.out, j + 1, r', _, _, _, _, by omega, by go_num, rfl, V9.out, L9.out, by have := hqj.out; simp; omega, by omega, by rw [List.map_append]; exact hB2.out⟩
                    case measure => simp [intOf]; omega
                · obtain rfl : j = m := by omega
                  rw [Nat.sub_self, behind_zero] at hB
                  have hlt' : ¬ (j : Int) < j := by omega
                  by_cases hr0 : r = []
                  · subst hr0
                    have hO := Box.mk (show o = .ok ⟨p, q, (n : Nat), qs.map (·.2)⟩ by rw [← ho.out]; exact blkP_ok g4 (by rw [hT.out, ← hB]))
                    have hn := Box.mk hn
                    obtain ⟨z0, z1, _⟩ := blk_all V
                    rw [← hR.out]
                    rw [← hR.out] at Kr
                    obtain ⟨f1, f2, f3, f4⟩ := fin.out _ ⟨p, q, (n : Int), ⟨u, l, c⟩⟩ Kr Br
                    have Lf := Box.mk ((L.congr (w' := wr.setCells W.heap.size 0 (blkC ⟨p, q, (n : Int), ⟨u, l, c⟩⟩)) (fun b h1 _ => heap_setCells_ne (by have := hR.out; omega) _ _) (by rw [setCells_size]; exact Nat.le_refl _)).blk (p := p) (q := q) hn.out)
                    replace f1 := Box.mk f1
                    replace f2 := Box.mk f2
                    replace V := Box.mk V
                    replace L := Box.mk L
                    replace hB := Box.mk hB
                    replace Kr := Box.mk Kr
                    replace Br := Box.mk Br
                    generalize (⟨p, q, (n : Int), ⟨u, l, c⟩⟩ : BlkV) = vv at *
                    go_wp2_with fail
                    refine bodyPost_ret (v := .tuple #[.agg (blkC vv).toArray, .int .i64 0]) (res2 Try.results33 (res_blk (b := W.heap.size) (o := 0) (by simp [go_sem]) f1.out) (v2 := .int .i64 0) (by simp [oneRes]; try rfl)) rfl ?_
                    exact BlkTo.mk hO.out Lf.out f2.out
                  · have hne := isEmpty_ne hr0
                    have hO := Box.mk (show o = .error 50 by rw [← ho.out]; exact blkP_m4 g4 (by rw [hT.out, ← hB]) hr0)
                    rw [← hR.out]
                    rw [← hR.out] at Kr
                    replace hr0 := Box.mk hr0
                    replace hB := Box.mk hB
                    replace V := Box.mk V
                    replace L := Box.mk L
                    obtain ⟨f1, f2, f3, f4⟩ := fin.out _ zeroBlk Kr Br
                    replace f1 := Box.mk f1
                    replace f2 := Box.mk f2
                    go_wp2_with fail
                    refine bodyPost_ret (v := .tuple #[.agg (blkC zeroBlk).toArray, .int .i64 50]) (res2 Try.results33 (res_blk (b := W.heap.size) (o := 0) (by simp [go_sem]) f1.out) (v2 := .int .i64 50) (by simp [oneRes]; try rfl)) rfl ?_
                    exact BlkTo.err hO.out (by omega) f2.out
        · have hx2 : (x != 0) = true := by simpa using hx
          have hO := Box.mk (show o = .error x by rw [← ho.out]; exact blkP_e3 g3 (by have := cmpR_err hv (by unfold cmpX; rw [if_neg hx]; exact hx); rw [this]; unfold cmpX; rw [if_neg hx]))
          replace hx := Box.mk hx
          replace hv := Box.mk hv
          obtain ⟨f1, f2, f3, f4⟩ := fin.out w4 zeroBlk K4 B4
          replace f1 := Box.mk f1
          replace f2 := Box.mk f2
          go_wp2_with fail
          refine bodyPost_ret (v := .tuple #[.agg (blkC zeroBlk).toArray, .int .i64 x]) (res2 Try.results33 (res_blk (b := W.heap.size) (o := 0) (by simp [go_sem]) f1.out) (v2 := .int .i64 x) (by simp [oneRes]; try rfl)) rfl ?_
          exact BlkTo.err hO.out hx.out f2.out
end Go.Proofs.Ytahkiabpjfcfdaa
