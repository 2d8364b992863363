/- Packages block, cost: Size, Cost; what is shown in layer 14. -/
import Derived.Test.YtahkiabpjfcfdaaCost
import Derived.Test.YtahkiabpjfcfdaaEnc3
import Derived.Test.YtahkiabpjfcfdaaLawEnd
namespace Go.Proofs.Ytahkiabpjfcfdaa
open Go.RowKit
set_option linter.unusedVariables false
set_option linter.unusedSimpArgs false
set_option maxRecDepth 100000
attribute [local irreducible] Int.lt Int.le
attribute [local go_sem ↓] load_key store_key alloc_key build0_key eq_key load_tx store_tx alloc_tx build0_tx
attribute [local go_sem] rowOf_drew rowOf_alloc_old rowOf_alloc_new canPut_drew canPut_alloc_old canPut_alloc_new setCells_alloc_new

/-- How many bytes a transaction has. -/
def sizeB (d : TxD) : Nat := (encV d).1.length
theorem sizeB_le (d : TxD) : sizeB d ≤ 100000 := by
  unfold sizeB encV
  split
  · simp
  · rename_i hm
    split
    · simp
    · show (encB d).length ≤ _
      have hm' : ¬ (manyB d = true) := by simpa using hm
      unfold manyB at hm'
      simp only [Bool.or_eq_true, decide_eq_true_eq, not_or] at hm'
      have c := compactL_le
      have k1 := catF_le (F := fun _ p => ptB p) (fun _ x => by rw [ptB_length]; omega) (l := d.ins) (by omega) 0
      have k2 := catF_le (F := fun _ p => outB p) (fun _ x => by rw [outB_length]; omega) (l := d.outs) (by omega) 0
      have k3 := catF_le (F := fun i (k : Key) => (if i = 0 then d.anchor.val else []) ++ k.val) (fun i x => by rw [List.length_append, x.property]; split <;> simp [d.anchor.property]) (l := d.nulls) (by omega) 0
      have k4 := catF_le (F := fun _ (k : Key) => k.val) (fun _ x => by rw [x.property]; omega) (l := d.notes) (by omega) 0
      have c1 := c d.ins.length
      have c2 := c d.outs.length
      have c3 := c d.nulls.length
      have c4 := c d.notes.length
      unfold encB
      simp only [List.length_append, le_length]
      omega

set_option maxHeartbeats 1000000 in
theorem blockSize_any (t : TxV) (d : TxD) (W : World) (h : TxL W t d) : Calls Try.prog 28 #[.agg (txC t).toArray] W (Gives (.int .i64 (sizeB d)) W) := by
  have hB0 : Below W.heap.size W (W.alloc (.cells (txC t).toArray 41)) := (Below.refl _ _).alloc (Nat.le_refl _) _
  have h0 := Box.mk (h.below hB0)
  replace h := Box.mk h
  go_enter Try.func28, Try.ntmps28
  go_wp2_with fail
  refine (encode_any t d _ h0.out).mono ?_
  rintro e w1 ⟨rfl, hb1⟩
  unfold valE
  have hs : ((encV d).1.length : Int) = (sizeB d : Int) := rfl
  generalize sizeB d = n at *
  go_wp2
  go_ret
  exact gives_int rfl (hB0.trans (hb1.mono hB0.size))

def costN (d : TxD) : Nat := max (sizeB d) 4000
set_option maxHeartbeats 1000000 in
theorem cost_any (t : TxV) (d : TxD) (W : World) (h : TxL W t d) : Calls Try.prog 20 #[.agg (txC t).toArray] W (Gives (.int .i64 (costN d)) W) := by
  have hB0 : Below W.heap.size W (W.alloc (.cells (txC t).toArray 41)) := (Below.refl _ _).alloc (Nat.le_refl _) _
  have h0 := Box.mk (fun w => blockSize_any t d w)
  have h1 := Box.mk (h.below hB0)
  replace h := Box.mk h
  have hc : costN d = max (sizeB d) 4000 := rfl
  obtain ⟨n, hn⟩ : ∃ n, sizeB d = n := ⟨_, rfl⟩
  rw [hn] at h0 hc
  replace hn := Box.mk hn
  obtain ⟨m, hm⟩ : ∃ m, costN d = m := ⟨_, rfl⟩
  rw [hm] at hc
  rw [hm]
  replace hm := Box.mk hm
  replace hc := Box.mk hc
  go_enter Try.func20, Try.ntmps20
  go_wp2_with fail
  refine (h0.out _ h1.out).mono ?_
  rintro e w1 ⟨rfl, hb1⟩
  go_wp2
  go_ret
  exact gives_int (by rw [hc.out]; omega) (hB0.trans (hb1.mono hB0.size))

/-! ### Plain -/
theorem pickV_ok {l : List Int} (ho : okW l) (hl : l.length ≤ 1000) (hne : l ≠ []) (draw : Nat) : pickV l draw = (((pickI l ((draw : Int) % l.sum) : Nat) : Int), true) := by
  have hs := okW_sum ho
  have : 0 < l.length := List.length_pos_iff.2 hne
  unfold pickV
  rw [sumV_ok ho hl, if_neg (by show ¬ l.sum = 0; omega)]
theorem pickV_bad {l : List Int} (h : ¬ (okW l ∧ l.length ≤ 1000)) (draw : Nat) : pickV l draw = (0, false) := by
  unfold pickV; rw [sumV_bad h]; rfl
theorem pickV_nil (draw : Nat) : pickV [] draw = (0, false) := by
  unfold pickV; rw [sumV_ok (fun x hx => by simp at hx) (by simp)]; rfl

def tx0 : TxV := ⟨0, .nil, .nil, zeroKey, .nil, .nil, 0⟩
def txd0 : TxD := ⟨0, [], [], zeroKey, [], [], 0⟩
theorem tx0_L (w : World) : TxL w tx0 txd0 := ⟨SL.nil _ _ _, SL.nil _ _ _, SL.nil _ _ _, SL.nil _ _ _, (fun p h => nomatch h), (fun p h => nomatch h), ⟨rfl, by decide, by decide⟩, rfl, ⟨rfl, by decide, by decide⟩⟩
theorem enc_tx0 : encV txd0 = ([0, 0, 0, 0, 0, 0, 0, 0, 0, 0, 0, 0, 0, 0, 0, 0], 0) := by
  unfold encV encB
  decide +kernel
theorem cost_tx0 : costN txd0 = 4000 := by unfold costN sizeB; rw [enc_tx0]; rfl

set_option maxHeartbeats 1000000 in
theorem shown14 (W : World) : Calls Try.prog 14 #[] W (Gives (.bool true) W) := by
  have hp : pickV [2, 3] 2 = (1, true) := by
    rw [pickV_ok (fun x hx => by simp at hx; omega) (by simp) (by simp)]
    decide
  have hI : ∀ w : World, IL (w.alloc (.cells #[.int .i64 2, .int .i64 3] 2)) (some ⟨w.heap.size, 0, none⟩) 2 2 [2, 3] := fun w => by
    refine OwnI.il (base := w.heap.size) ?_ (fun x hx => by simp at hx; unfold I64; omega)
    have := OwnV.new w w.heap.size 2 w.heap.size [.int .i64 2, .int .i64 3] rfl (Nat.le_refl _) (by simp [maxLen])
    show OwnV _ _ _ _ (rows iC [2, 3])
    rw [rows_cons, rows_cons, rows_nil]
    exact this
  have hc := fun w => cost_any tx0 txd0 w (tx0_L w)
  rw [cost_tx0] at hc
  replace hp := Box.mk hp
  replace hI := Box.mk hI
  replace hc := Box.mk hc
  go_enter Try.func14, Try.ntmps14
  go_wp2_with fail
  refine (costPick_any _ _ _ [2, 3] 2 (by omega) _ (hI.out W)).mono ?_
  rintro e w1 ⟨rfl, hb1⟩
  rw [hp.out]
  unfold val2
  have hB1 : Below W.heap.size W w1 := Below.of hb1 (by simp) ((Below.refl _ _).alloc (Nat.le_refl _) _)
  clear hb1
  go_wp2_with fail
  refine (hc.out _).mono ?_
  rintro e w2 ⟨rfl, hb2⟩
  go_wp2
  go_ret
  exact gives_bool rfl (Below.of hb2 hB1.size hB1)

end Go.Proofs.Ytahkiabpjfcfdaa
