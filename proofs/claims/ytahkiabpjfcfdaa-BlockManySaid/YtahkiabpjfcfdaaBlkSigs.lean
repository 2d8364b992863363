/- Package block: Sigs, Size. -/
import Derived.Test.YtahkiabpjfcfdaaBlkNotes
import Derived.Test.YtahkiabpjfcfdaaBase2
namespace Go.Proofs.Ytahkiabpjfcfdaa
open Go.RowKit Go.Shelf
set_option linter.unusedVariables false
set_option linter.unusedSimpArgs false
set_option maxRecDepth 100000
attribute [local go_sem] Oper.semAt_some
attribute [local go_sem ↓] semAt_run
attribute [local irreducible] Int.lt Int.le
attribute [local go_sem ↓] load_key store_key alloc_key build0_key eq_key load_point store_point alloc_point load_out store_out alloc_out load_tx store_tx alloc_tx load_blk store_blk alloc_blk build0_blk append_key
attribute [local go_sem] rowOf_drew rowOf_alloc_old rowOf_alloc_new canPut_drew canPut_alloc_old canPut_alloc_new setCells_alloc_new

/-- How many signatures transactions want. -/
def sigsN : List TxD → Nat
  | [] => 0
  | d :: l => (if cbB d.ins = true then 0 else d.ins.length) + sigsN l
theorem sigsN_append : ∀ (l m : List TxD), sigsN (l ++ m) = sigsN l + sigsN m
  | [], m => by simp [sigsN]
  | d :: l, m => by rw [List.cons_append, sigsN, sigsN, sigsN_append l m]; omega
theorem sigsN_one (d : TxD) : sigsN [d] = if cbB d.ins = true then 0 else d.ins.length := by simp [sigsN]
theorem KeepsOthers.ofBelow {W W' : World} (h : Below W.heap.size W W') : KeepsOthers W W' := ⟨h.size, fun k o hk _ => (h.block k (Array.getElem?_eq_some_iff.1 hk).1).trans hk⟩
/-- What Sigs has counted. -/
structure GI (s : Nat) {w : World} (pre : List (TQ w)) (W : World) : Prop where
  box : Boxed W (s + 1) 3 (.int .i64 (sigsN (dsOf pre) : Nat))
  big : s + 2 < W.heap.size
  few : sigsN (dsOf pre) ≤ 60 * pre.length
theorem GI.kept {s : Nat} {w : World} (B : Nat) : OwnFrom B (fun (pre : List (TQ w)) W => GI s pre W) := fun pre W W' row h hg hr =>
  ⟨cells_kept h.box hg (fun r e => (hr r e).2), Nat.lt_of_lt_of_le h.big hg.size, h.few⟩

set_option maxHeartbeats 2000000 in
theorem sigs_in (n : Nat) (hn : 3 ≤ n) (v : BlkV) (qs : List (TxV × TxD)) (d : BlkD) (w : World) (h : BlkL w v qs d) (hk : okB d) :
    CallsIn Fence.wide n Try.prog 31 #[.agg (blkC v).toArray] w fun e W' => e = .returned (.int .i64 (sigsN d.txs : Nat)) ∧ Below w.heap.size w W' := by
  have h1 : 1 ≤ n := by omega
  obtain ⟨s, hs⟩ : ∃ s, w.heap.size = s := ⟨_, rfl⟩
  replace h := Box.mk h
  replace hk := Box.mk hk
  refine callsIn_of_wp_marks Try.func31 rfl trivial ?_ rfl
  simp only [Try.ntmps31, List.size_toArray, List.length_cons, List.length_nil, Nat.reduceAdd, Nat.reduceSub, Array.replicate_succ, Array.replicate_zero, List.push_toArray, List.append_toArray, List.nil_append, List.cons_append]
  gi_wp2_with (refine ⟨trivial, ?_⟩; gi_at_call 48; refine (each_in (n - 1) _ _).mono ?_; rintro e w' ⟨rfl, rfl⟩)
  have q1 : ((((w.alloc (.cells (blkC v).toArray 50)).alloc (.cells #[.int .i64 0] 3)).alloc (.cells (blkC v).toArray 50)).heap[s + 1]?) = some (.cells #[.int .i64 0] 3 (0, 0)) := by
    have := keepBlock ((Below.refl _ ((w.alloc (.cells (blkC v).toArray 50)).alloc (.cells #[.int .i64 0] 3))).alloc (Nat.le_refl _) (.cells (blkC v).toArray 50)) (heap_alloc_new (w.alloc (.cells (blkC v).toArray 50)) (.cells #[.int .i64 0] 3))
    rwa [World.size_alloc, hs] at this
  have q2 : ((((w.alloc (.cells (blkC v).toArray 50)).alloc (.cells #[.int .i64 0] 3)).alloc (.cells (blkC v).toArray 50)).heap[s + 1 + 1]?) = some (.cells (blkC v).toArray 50 (0, 0)) := by
    have := heap_alloc_new ((w.alloc (.cells (blkC v).toArray 50)).alloc (.cells #[.int .i64 0] 3)) (.cells (blkC v).toArray 50)
    rwa [World.size_alloc, World.size_alloc, hs] at this
  have hB0 : Below w.heap.size w (((w.alloc (.cells (blkC v).toArray 50)).alloc (.cells #[.int .i64 0] 3)).alloc (.cells (blkC v).toArray 50)) := ((((Below.refl _ w).alloc (Nat.le_refl _) _).alloc (by simp) _).alloc (by simp; omega) _)
  have hz : (((w.alloc (.cells (blkC v).toArray 50)).alloc (.cells #[.int .i64 0] 3)).alloc (.cells (blkC v).toArray 50)).heap.size = s + 3 := by simp [hs]
  generalize ((w.alloc (.cells (blkC v).toArray 50)).alloc (.cells #[.int .i64 0] 3)).alloc (.cells (blkC v).toArray 50) = w3 at *
  replace hs := Box.mk hs
  have hqs : qs.length ≤ 40 := by have := hk.out.1; rw [h.out.cont, List.length_map] at this; exact this
  refine wpIn_rangeFunc_ownH rfl h1 (gf := 81) (lb := #[.pointer (some ⟨s + 1 + 1, 0, none⟩)]) rfl trivial (enters_of Try.func81 (by kernel_rfl) rfl)
    (each_stops (n - 1) (by omega) (s + 1 + 1) w w3 v qs h.out.txs (h.out.ok hk.out) hB0 q2) belowK_t (belowK_b (by have := hs.out; omega)) (Below.refl _ _) (fun _ => rfl)
    (fun pre W => GI s pre W ∧ Below w.heap.size w W)
    (fun c pre W => False ∧ Below w.heap.size w W)
    (OwnFrom.and (GI.kept _) (ownFrom_below (Nat.le_refl _) (by have := hs.out; omega)))
    (fun c => OwnFrom.and (ownFrom_pure _ _) (ownFrom_below (Nat.le_refl _) (by have := hs.out; omega)))
    ⟨⟨q1, by omega, by simp [dsOf, sigsN]⟩, hB0⟩
    (fun x a' W => NA s (fun p => #[.agg (blkC v).toArray, .pointer (some ⟨s, 0, none⟩), .int .i64 0, .pointer (some ⟨s + 1, 0, none⟩), p, .agg (blkC v).toArray, .func (.func 81) #[] #[.pointer (some ⟨s + 1 + 1, 0, none⟩)], .agg (txC x.1.1).toArray, undef, undef, undef, undef, undef, undef, undef, undef, undef]) x a' W)
    (fun x a' => NA.kept _) ?assign ?body ?done ?stop
  case assign =>
    intro l pre x W K hI hK
    have hsz := hI.1.big
    have hB := hI.2
    have hI1 := hI.1
    have hsz3 := hB.size
    replace hI := Box.mk hI
    replace hB := Box.mk hB
    gi_wp2
    refine hK _ _ ((KeepsOthers.alloc W _).from _) ((Below.refl _ W).alloc (by assumption) _) ⟨GI.kept 0 _ _ _ none hI1 (World.grownBy_alloc _ _ none) (fun r e => by cases e), hB.out.alloc (by assumption) _⟩ ⟨W.heap.size, hsz, heap_alloc_new W _, rfl⟩
  case body =>
    rintro l pre x a' W hl hrec ⟨⟨bx, hbig, hfew⟩, hB⟩ ⟨g, hg, hc, rfl⟩ hlen
    obtain ⟨t0, t1, t2, t3, t4, t5, t6, t7⟩ := tx_all hc
    have hrow : rowOf W g 0 38 = some (txC x.1.1) := by
      rw [rowOf_block hc 0 38 (by simp [txC_length])]
      congr 1; simp
      exact List.take_of_length_le (by rw [txC_length]; exact Nat.le_refl _)
    have hN := x.2.1.ins.below hB
    have hlen1 := hN.1
    have hn60 := x.2.2.1
    have hsn := sigsN_append (dsOf pre) [x.1.2]
    rw [sigsN_one] at hsn
    have hds : dsOf (pre ++ [x]) = dsOf pre ++ [x.1.2] := by unfold dsOf; simp
    have hkn := Box.mk hn60
    replace hds := Box.mk hds
    replace hlen1 := Box.mk hlen1
    replace hc := Box.mk hc
    clear t1 t3 t4 t5 t6 t7
    gi_wp2
    refine ⟨trivial, fun _ => by omega, ?_⟩
    refine (CallsIn.inRound l ((callsIn_wide (n := n - 1 - 1 - 1)).2 (coinbase_any x.1.1 x.1.2.ins W hN))).mono ?_
    rintro e w' ⟨rfl, hb'⟩
    have bx' : Boxed w' (s + 1) 3 _ := keepBlock hb' bx
    obtain ⟨_, t1', _, _, _, _, _, _⟩ := tx_all (keepBlock hb' hc.out)
    have e1 := bx'.cell
    have f1 := bx'.frozen
    have hBW : Below w.heap.size W w' := hb'.mono (by rw [hs.out]; omega)
    have hsz' := hb'.size
    have hbB := (KeepsOthers.ofBelow hb')
    cases hcb : cbB x.1.2.ins with
    | true =>
      rw [hcb] at hsn
      simp only [if_true, Nat.add_zero] at hsn
      replace hsn := Box.mk hsn
      gi_wp2
      refine ⟨hbB.from _, hBW, ⟨?_, by omega, ?_⟩, hB.trans hBW⟩
      · rw [hds.out, hsn.out]; exact bx'
      · rw [hds.out, hsn.out]; simp; omega
    | false =>
      rw [hcb] at hsn
      simp only [Bool.false_eq_true, if_false] at hsn
      have hadd : wrap64 (((sigsN (dsOf pre) : Nat) : Int) + (x.1.1.ins.len : Int)) = ((sigsN (dsOf pre) + x.1.2.ins.length : Nat) : Int) := by
        rw [hlen1.out, IntWalk.wrap64_in _ ⟨by omega, by omega⟩]; omega
      replace hsn := Box.mk hsn
      gi_wp2
      clear hadd
      have hfin : sigsN (dsOf pre) + x.1.2.ins.length ≤ 60 * (pre ++ [x]).length := by
        have h60 := hkn.out
        rw [List.length_append, List.length_singleton]
        clear hrec e1 f1 bx bx' t1' hN hsn
        omega
      refine ⟨(hbB.trans (KeepsOthers.setCell _ _ _)).from _, hBW.setCell (p := ⟨s + 1, 0, none⟩) (by rw [hs.out]; simp) _, ⟨?_, ?_, ?_⟩, (hB.trans hBW).setCell (p := ⟨s + 1, 0, none⟩) (by rw [hs.out]; simp) _⟩
      · rw [hds.out, hsn.out]; exact bx'.set _
      · simp [World.setCell]; omega
      · rw [hds.out, hsn.out]; exact hfin
  case done =>
    rintro D ys W hD rfl ⟨⟨bx, hbig, hfew⟩, hB⟩ hK
    have e0 := bx.cell
    have hds := Box.mk (dsOf_tqs h.out (h.out.ok hk.out))
    gi_wp2
    refine ⟨by simp, .inl ⟨_, _, rfl, run_takeDeferred hK, ?_⟩⟩
    have hBe := belowK_b (w := w) (Nat.le_refl _) W D (.deferred (some [])) (.deferred none) (by have := hs.out; omega) hK rfl rfl
    refine ⟨_, ?_, by rw [← hds.out], hB.trans hBe⟩
    simp [results, Try.f31, go_sem]
  case stop =>
    rintro D c pre W hD hpre ⟨hf, _⟩ hK
    exact hf.elim

theorem sigs_any (v : BlkV) (qs : List (TxV × TxD)) (d : BlkD) (w : World) (h : BlkL w v qs d) (hk : okB d) :
    Calls Try.prog 31 #[.agg (blkC v).toArray] w (Gives (.int .i64 (sigsN d.txs : Nat)) w) :=
  (callsIn_wide.1 (sigs_in 3 (Nat.le_refl _) v qs d w h hk)).mono fun e w' h => h

theorem bsize_any (t : TxV) (d : TxD) (W : World) (h : TxL W t d) : Calls Try.prog 28 #[.agg (txC t).toArray] W (Gives (.int .i64 ((encV d).1.length : Nat)) W) := by
  have hB0 : Below W.heap.size W (W.alloc (.cells (txC t).toArray 41)) := (Below.refl _ _).alloc (Nat.le_refl _) _
  go_enter Try.func28, Try.ntmps28
  go_wp2_with fail
  refine (encode_any t d _ (h.below hB0)).mono ?_
  rintro e w1 ⟨rfl, hb⟩
  unfold valE
  go_wp2_with fail
  go_ret
  refine ⟨?_, hB0.trans (hb.mono hB0.size)⟩
  simp

end Go.Proofs.Ytahkiabpjfcfdaa
