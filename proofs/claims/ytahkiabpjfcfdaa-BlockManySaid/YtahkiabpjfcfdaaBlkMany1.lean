/- Layer 6: blocks of too many transactions; the bytes ahead of a block's transactions. (printed by mkblkmany1.py) -/
import Derived.Test.YtahkiabpjfcfdaaBlkId
import Derived.Test.YtahkiabpjfcfdaaBlkAny
import Derived.Test.YtahkiabpjfcfdaaBlkEncMany
namespace Go.Proofs.Ytahkiabpjfcfdaa
open Go.RowKit
set_option linter.unusedVariables false
set_option linter.unusedSimpArgs false
set_option maxRecDepth 100000
attribute [local irreducible] Int.lt Int.le
attribute [local go_sem] sB_append le_length putL_4
attribute [local go_sem ↓] load_key store_key alloc_key build0_key eq_key load_tx store_tx alloc_tx build0_tx load_blk store_blk alloc_blk build0_blk
attribute [local go_sem] rowOf_drew rowOf_alloc_old rowOf_alloc_new canPut_drew canPut_alloc_old canPut_alloc_new setCells_alloc_new

set_option maxHeartbeats 2000000 in
theorem bid_err (t : BlkV) (x : Int) (hx : ¬ x = 0) (W : World) (hEnc : ∀ w, Below W.heap.size W w → Calls Try.prog 27 #[.agg (blkC t).toArray] w (Gives (valE ([], x)) w)) : Calls Try.prog 36 #[.agg (blkC t).toArray] W (Gives (valNm (zeroKey, x)) W) := by
  have hB0 : Below W.heap.size W (W.alloc (.cells (blkC t).toArray 50)) := (Below.refl _ _).alloc (Nat.le_refl _) _
  have hB1 : Below W.heap.size W ((W.alloc (.cells (blkC t).toArray 50)).alloc (.cells (keyC zeroKey).toArray 38)) := hB0.alloc (by simp) _
  have hr0 : rowOf ((W.alloc (.cells (blkC t).toArray 50)).alloc (.cells (keyC zeroKey).toArray 38)) W.heap.size 0 66 = some (blkC t) := by
    rw [rowOf_alloc_old _ _ _ _ _ (by simp)]; exact (blk_all (heap_alloc_new W _)).2.1
  have hk0 : ((W.alloc (.cells (blkC t).toArray 50)).alloc (.cells (keyC zeroKey).toArray 38)).heap[W.heap.size + 1]? = some (.cells (keyC zeroKey).toArray 38 (0, 0)) := heap_alloc_new' _ _ _ (by simp)
  have hs0 : ((W.alloc (.cells (blkC t).toArray 50)).alloc (.cells (keyC zeroKey).toArray 38)).heap.size = W.heap.size + 1 + 1 := by simp
  have hE := hEnc _ hB1
  go_enter Try.func36, Try.ntmps36
  go_wp2_with fail
  generalize (W.alloc (.cells (blkC t).toArray 50)).alloc (.cells (keyC zeroKey).toArray 38) = w0 at *
  refine hE.mono ?_
  rintro e w1 ⟨rfl, hb1⟩
  have hk1 := keepBlock hb1 hk0
  have B1 := hB1.trans (hb1.mono (by omega))
  have hcp : canPut w1 (W.heap.size + 1) 0 32 = true := canPut_block hk1 0 32 (by simp [keyC_length])
  have l1 : W.heap.size + 1 < w1.heap.size := by have := hb1.size; omega
  clear hr0 hE
  unfold valE
  have fin : ∀ (w : World) (k : Key), Below W.heap.size W w → Below W.heap.size W (w.setCells (W.heap.size + 1) 0 (keyC k)) := fun w k hb => below_setCells (Nat.le_succ _) _ _ _ _ hb
  have row : ∀ (w : World) (k : Key), w.heap[W.heap.size + 1]? = some (.cells (keyC zeroKey).toArray 38 (0, 0)) → rowOf (w.setCells (W.heap.size + 1) 0 (keyC k)) (W.heap.size + 1) 0 32 = some (keyC k) := fun w k hk =>
    rowOf_of_rangeAt (World.rangeAt_setCells_same w (W.heap.size + 1) 0 (keyC k) (by rw [keyC_length]; exact canPut_there.1 (canPut_block hk 0 32 (by simp [keyC_length])))) (keyC_length k)
  replace fin := Box.mk fin
  replace row := Box.mk row
  replace hk1 := Box.mk hk1
  replace hk0 := Box.mk hk0
  replace hs0 := Box.mk hs0
  have hx2 : (x != 0) = true := by simpa using hx
  go_wp2
  refine bodyPost_ret (v := valNm (zeroKey, x)) (res2 Try.results36 (res_key (b := W.heap.size + 1) (o := 0) (by simp [go_sem]) (row.out _ zeroKey hk1.out)) (v2 := .int .i64 x) (by simp [oneRes]; try rfl)) rfl ?_
  exact gives rfl (fin.out _ _ B1)


set_option maxHeartbeats 2000000 in
theorem rhead6_any (k : Key) (m : Nat) (W : World) (hm : m ≤ 100) : Calls Try.prog 40 #[.agg (keyC k).toArray, .int .i64 m] W (Gives (.string (sB (k.val ++ (zeroKey.val ++ (le 4 0 ++ compactL m))))) W) := by
  have hB0 : Below W.heap.size W (W.alloc (.cells (keyC k).toArray 38)) := (Below.refl _ _).alloc (Nat.le_refl _) _
  have hr0 := key_row' (heap_alloc_new W (.cells (keyC k).toArray 38))
  have y1 : k.val.length = 32 := k.property
  have y2 : zeroKey.val.length = 32 := zeroKey.property
  have hc1 : (compactL m).length = 1 := by unfold compactL; rw [if_pos (by omega), le_length]
  have hmod : (m : Int) % 18446744073709551616 = m := by omega
  go_enter Try.func40, Try.ntmps40
  go_wp2_with fail
  generalize W.alloc (.cells (keyC k).toArray 38) = w0 at *
  refine (refBytes_any k w0).mono ?_
  rintro e w1 ⟨rfl, b1⟩
  have B1 := Box.mk (hB0.trans (b1.mono hB0.size))
  clear hr0 b1
  go_wp2_with fail
  refine (refBytes_any zeroKey w1).mono ?_
  rintro e w2 ⟨rfl, b2⟩
  have B2 := Box.mk (B1.out.trans (b2.mono B1.out.size))
  clear b2
  go_wp2_with fail
  refine (refPut_any 0 4 w2 (by omega)).mono ?_
  rintro e w3 ⟨rfl, b3⟩
  have B3 := Box.mk (B2.out.trans (b3.mono B2.out.size))
  clear b3
  go_wp2_with fail
  refine (refCompact_any m w3 (by omega)).mono ?_
  rintro e w4 ⟨rfl, b4⟩
  have B4 := Box.mk (B3.out.trans (b4.mono B3.out.size))
  clear b4
  generalize zeroKey.val = zk at *
  go_wp2
  go_ret
  exact gives rfl B4.out

theorem make_tx (ρ : Operand → Value) (dst : Option Tmp) (x y : Operand) (t' : TypeId) (pos : String) (after : Array Edge) (guard : Option (Nat × Bool)) (w : World) :
    (execOp ρ ⟨dst, .makeSlice 48 x y, t', pos, after, guard⟩).run Try.prog w = makeTo Try.prog 48 41 (fun k => rows (fun q : TxV × TxD => txC q.1) (List.replicate k (zeroTx, zeroT))) w (ρ x) (ρ y) := by
  obtain ⟨i, hi, hs, hb, hz⟩ := info_tx3
  exact exec_make (f := fun q : TxV × TxD => txC q.1) (z := (zeroTx, zeroT)) Try.underlying48 hi hs rfl hz (txC_length _) hb (by omega) ρ dst x y t' pos after guard w
def buildBlk03To (P : Program) (w : World) (u v : Value) : Result Next := (do pure (.value (← Instr.build 50 #[(0, u), (3, v)])) : Sem Next).run P w
theorem build_blk03 (ρ : Operand → Value) (dst : Option Tmp) (x y : Operand) (t : TypeId) (pos : String) (after : Array Edge) (guard : Option (Nat × Bool)) (w : World) :
    (execOp ρ ⟨dst, .build 50 #[(0, x), (3, y)], t, pos, after, guard⟩).run Try.prog w = buildBlk03To Try.prog w (ρ x) (ρ y) := by simp [execOp, buildBlk03To]
theorem run_build_blk03 (p : Key) (a : Option Addr) (n c : Nat) (w : World) : (Instr.build 50 #[(0, Value.agg (keyC p).toArray), (3, Value.slice a n c)]).run Try.prog w = .ok (.agg (blkC ⟨p, zeroKey, 0, ⟨a, n, c⟩⟩).toArray) w := by
  obtain ⟨b0, b1, b2, b3, b4, b5, b6, b7, b8, b9, b10, b11, b12, b13, b14, b15, b16, b17, b18, b19, b20, b21, b22, b23, b24, b25, b26, b27, b28, b29, b30, b31, h⟩ := list32' (keyC p) (keyC_length p)
  unfold blkC
  show (Instr.build 50 #[(0, Value.agg (keyC p).toArray), (3, Value.slice a n c)]).run Try.prog w = .ok (Value.agg (keyC p ++ (keyC zeroKey ++ [Value.int .u32 0, Value.slice a n c])).toArray) w
  rw [h]
  kernel_rfl
@[go_sem] theorem buildBlk03To_lit (p : Key) (a : Option Addr) (n c : Nat) (w : World) : buildBlk03To Try.prog w (Value.agg (keyC p).toArray) (Value.slice a n c) = .ok (.value (.agg (blkC ⟨p, zeroKey, 0, ⟨a, n, c⟩⟩).toArray)) w := by
  unfold buildBlk03To
  rw [Sem.run_bind, run_build_blk03]
  rfl

/-! ### In plain words -/
/-- A block of so many transactions of nothing. -/
def manyD (k : Key) (m : Nat) : BlkD := ⟨k, zeroKey, 0, List.replicate m zeroT⟩
theorem many_L {w : World} {a : Option Addr} {k : Key} {m : Nat} (h : SL (fun q : TxV × TxD => txC q.1) 38 w a m m (List.replicate m (zeroTx, zeroT))) : BlkL w ⟨k, zeroKey, 0, ⟨a, m, m⟩⟩ (List.replicate m (zeroTx, zeroT)) (manyD k m) :=
  ⟨h, fun q hq => by rw [(List.mem_replicate.1 hq).2]; exact zeroT_L w, by unfold manyD; simp, rfl, rfl, ⟨rfl, (by decide : (0 : Int) ≤ 0), (by decide : (0 : Int) ≤ 4294967295)⟩⟩
theorem many_len (k : Key) (m : Nat) : (manyD k m).txs.length = m := by unfold manyD; simp
theorem many_ok {k : Key} {m : Nat} (h : m ≤ 40) : okB (manyD k m) := ⟨by rw [many_len]; exact h, fun t ht => by rw [(List.mem_replicate.1 ht).2]; exact ⟨by decide, by decide, by decide, by decide⟩⟩
theorem zeroT_enc : encV zeroT = (encB zeroT, 0) := by kernel_rfl
theorem zeroT_len : (encB zeroT).length = 16 := by kernel_rfl
theorem zeroT_well : wellB zeroT := ⟨by kernel_rfl, fun _ => rfl⟩
theorem many_V {k : Key} {m : Nat} (h0 : 0 < m) (h30 : m ≤ 30) : ∃ s, blkV (manyD k m) = (s, 0) ∧ s.length = 69 + 16 * m := by
  have hl := many_len k m
  have he : encTxs (manyD k m).txs = .ok ((manyD k m).txs.flatMap encB) := encTxs_of _ fun x hx => by rw [(List.mem_replicate.1 hx).2]; exact zeroT_well
  refine ⟨_, blkV_ok (by omega) (by omega) he, ?_⟩
  rw [List.length_append, blkHead_length _ (by omega)]
  have : ∀ m : Nat, ((List.replicate m zeroT).flatMap encB).length = 16 * m := by
    intro m
    induction m with
    | zero => rfl
    | succ m ih => rw [List.replicate_succ, List.flatMap_cons, List.length_append, ih, zeroT_len]; omega
  show 69 + ((List.replicate m zeroT).flatMap encB).length = _
  rw [this]
/-- What the head alone is decoded to. -/
theorem head_bad {k : Key} {m : Nat} (hm : m < 50) (h : m = 0 ∨ 30 < m) : blkRd (k.val ++ (zeroKey.val ++ (le 4 0 ++ compactL m))) = .error (if m = 0 then 110 else 51) := by
  have g1 : keyR (k.val ++ (zeroKey.val ++ (le 4 0 ++ compactL m))) = .ok (k, zeroKey.val ++ (le 4 0 ++ compactL m)) := (key_reads k).back _
  have g2 : keyR (zeroKey.val ++ (le 4 0 ++ compactL m)) = .ok (zeroKey, le 4 0 ++ compactL m) := (key_reads zeroKey).back _
  have g3 : numR 4 (le 4 0 ++ compactL m) = .ok (0, compactL m) := (num_reads (k := 4) (n := 0) (by decide)).back _
  have hv : readV (compactL m) = (m, [], 0) := by
    have := readL_compactL (n := m) (r := []) (by omega)
    rw [List.append_nil] at this
    unfold readV
    rw [this]; rfl
  have hX : cmpX m 0 = if m = 0 then 110 else 51 := by
    unfold cmpX
    rw [if_pos rfl]
    split
    · rfl
    · rw [if_pos (by omega)]
  have := cmpR_err hv (by rw [hX]; split <;> decide)
  rw [hX] at this
  exact blkP_e3 ⟨_, ⟨_, g1, g2⟩, g3⟩ this
end Go.Proofs.Ytahkiabpjfcfdaa
