/- BlockSizes: the walk. -/
import Derived.Test.YtahkiabpjfcfdaaBlkLaws
namespace Go.Proofs.Ytahkiabpjfcfdaa
open Go.RowKit
set_option linter.unusedVariables false
set_option linter.unusedSimpArgs false
set_option maxRecDepth 100000
attribute [local irreducible] Int.lt Int.le
attribute [local go_sem ↓] load_key store_key alloc_key build0_key eq_key load_tx store_tx alloc_tx load_blk store_blk alloc_blk build0_blk
attribute [local go_sem] rowOf_drew rowOf_alloc_old rowOf_alloc_new canPut_drew canPut_alloc_old canPut_alloc_new setCells_alloc_new

/-- The lengths of transactions' bytes. -/
def sizesN (l : List TxD) : Nat := (l.map fun t => (encV t).1.length).sum
theorem sizesN_snoc (l : List TxD) (t : TxD) : sizesN (l ++ [t]) = sizesN l + (encV t).1.length := by unfold sizesN; simp
theorem sizesN_le : ∀ l : List TxD, sizesN l ≤ 1000000 * l.length
  | [] => by simp [sizesN]
  | t :: l => by
    have := sizesN_le l
    have h2 := encV_le t
    unfold sizesN at this ⊢
    rw [List.map_cons, List.sum_cons, List.length_cons]; omega
theorem encTxs_length : ∀ (l : List TxD) (s : List UInt8), encTxs l = .ok s → s.length = sizesN l
  | [], s, h => by injection h with h; subst h; rfl
  | t :: l, s, h => by
    unfold encTxs at h
    split at h
    · cases hl : encTxs l with
      | error y => rw [hl] at h; cases h
      | ok s2 =>
        rw [hl] at h
        injection h with h
        subst h
        rw [List.length_append, encTxs_length l s2 hl]
        unfold sizesN; simp
    · cases h
theorem encTxs_ne : ∀ (l : List TxD) (x : Int), encTxs l = .error x → x ≠ 0
  | [], _, h => by cases h
  | t :: l, x, h => by
    unfold encTxs at h
    split at h
    · cases hl : encTxs l with
      | error y => rw [hl] at h; injection h with h; subst h; exact encTxs_ne l y hl
      | ok s2 => rw [hl] at h; cases h
    · rename_i hx
      injection h with h; subst h; exact hx
theorem blkHead_length (d : BlkD) (h : d.txs.length ≤ 40) : (blkHead d).length = 69 := by
  unfold blkHead
  have hc : compactL d.txs.length = le 1 d.txs.length := by unfold compactL; rw [if_pos (by omega)]
  rw [hc]
  simp only [List.length_append, le_length, d.prev.property, d.root.property]
theorem blkV_cases (d : BlkD) : ((blkV d).1 = [] ∧ (blkV d).2 ≠ 0) ∨ ((blkV d).2 = 0 ∧ (blkV d).1.length = 69 + sizesN d.txs) := by
  by_cases h0 : d.txs.length = 0
  · rw [blkV_zero h0]; exact .inl ⟨rfl, by decide⟩
  · by_cases h1 : 30 < d.txs.length
    · rw [blkV_many h0 h1]; exact .inl ⟨rfl, by decide⟩
    · cases he : encTxs d.txs with
      | error x => rw [blkV_err h0 h1 he]; exact .inl ⟨rfl, encTxs_ne _ _ he⟩
      | ok s =>
        rw [blkV_ok h0 h1 he]
        refine .inr ⟨rfl, ?_⟩
        show (blkHead d ++ s).length = _
        rw [List.length_append, blkHead_length d (by omega), encTxs_length _ _ he]

set_option maxHeartbeats 2000000 in
theorem blockSizes_walk (v : BlkV) (qs : List (TxV × TxD)) (d : BlkD) (W : World) (h : BlkL W v qs d) : Calls Try.prog 8 #[.agg (blkC v).toArray] W (Gives (.bool true) W) := by
  have hB0 : Below W.heap.size W (W.alloc (.cells (blkC v).toArray 50)) := (Below.refl _ _).alloc (Nat.le_refl _) _
  have hH0 := heap_alloc_new W (.cells (blkC v).toArray 50)
  have hvl := h.vlen
  have hqd : qs.length = d.txs.length := by have := congrArg List.length h.cont; rw [List.length_map] at this; exact this.symm
  have hcap := h.txs.2.1
  have hmax : (v.txs.len : Int) ≤ 9223372036854775807 := by have := Nat.le_trans h.txs.2.1 h.txs.2.2.1; unfold maxLen at this; omega
  rw [hvl] at hmax hcap
  have hs0 : (W.alloc (.cells (blkC v).toArray 50)).heap.size = W.heap.size + 1 := by simp
  replace hH0 := Box.mk hH0
  replace h := Box.mk h
  cases hh : hvB d
  · have hk := hvB_ok hh
    have h40 := hk.1
    go_enter Try.func8, Try.ntmps8
    go_wp2_with fail
    refine (heavy06_any v qs d _ (h.out.below hB0)).mono ?_
    rintro e w1 ⟨rfl, hb1⟩
    rw [hh]
    replace hh := Box.mk hh
    have W1 := hB0.trans (hb1.mono hB0.size)
    have H1 := keepBlock hb1 hH0.out
    clear hb1 hs0
    replace H1 := Box.mk H1
    go_wp2_with fail
    refine (shown06_any w1).mono ?_
    rintro e w2 ⟨rfl, hb2⟩
    have W2 := W1.trans (hb2.mono W1.size)
    have H2 := keepBlock hb2 H1.out
    have R2 := (blk_all H2).2.1
    have s2 := (blk_all H2).1
    clear hb2 W1 H1
    replace H2 := Box.mk H2
    go_wp2_with fail
    refine (bencode_any v qs d w2 (h.out.below W2) hk).mono ?_
    rintro e w3 ⟨rfl, hb3⟩
    have W3 := W2.trans (hb3.mono W2.size)
    have H3 := keepBlock hb3 H2.out
    clear R2 s2 H2 hb3 W2
    have hV := blkV_cases d
    obtain ⟨bs, x, hbx⟩ : ∃ bs x, blkV d = (bs, x) := ⟨_, _, rfl⟩
    rw [hbx] at hV ⊢
    unfold valE
    replace hbx := Box.mk hbx
    replace hV := Box.mk hV
    replace hk := Box.mk hk
    replace H3 := Box.mk H3
    go_wp2_with fail
    go_loopw [5, 6] (fun sv i wr => Below W.heap.size W wr ∧ wr.heap[W.heap.size]? = some (.cells (blkC v).toArray 50 (0, 0)) ∧ ∃ j : Nat, j ≤ d.txs.length ∧ i = .int .i64 j ∧ sv = .int .i64 ((69 + sizesN (d.txs.take j) : Nat) : Int)) (fun _ i _ => d.txs.length - (intOf i).toNat)
    case atStart => exact ⟨W3, H3.out, 0, Nat.zero_le _, rfl, by simp [sizesN]⟩
    case round =>
      obtain ⟨hbr, hHr, j, hj, rfl, rfl⟩ := hrel
      obtain ⟨k0, _, _, _, _, k5⟩ := blk_all hHr
      rw [hvl] at k5
      have hsz := hbr.size
      by_cases hlt : j < d.txs.length
      · have hlt' : (j : Int) < (d.txs.length : Int) := by omega
        obtain ⟨q, hq⟩ : ∃ q, qs[j]? = some q := ⟨_, List.getElem?_eq_getElem (by omega)⟩
        have hdq : d.txs[j]? = some q.2 := by rw [h.out.cont, List.getElem?_map, hq]; rfl
        have hT := ((h.out.each q (List.mem_of_getElem? hq))).below hbr
        obtain ⟨b, o, hae, hb, hr⟩ := SL.elem (fun q => txC_length q.1) h.out.txs hq
        have R1 : rowOf wr b (o + j * 38) 38 = some (txC q.1) := by rw [rowOf_congr (hbr.block b hb)]; exact hr
        have s1 : b < wr.heap.size := by omega
        have htk : sizesN (d.txs.take (j + 1)) = sizesN (d.txs.take j) + (encV q.2).1.length := by rw [List.take_add_one, hdq]; exact sizesN_snoc _ _
        have hle := sizesN_le (d.txs.take j)
        have hle2 := encV_le q.2
        rw [List.length_take] at hle
        obtain ⟨A, hA⟩ : ∃ A, 69 + sizesN (d.txs.take j) = A := ⟨_, rfl⟩
        obtain ⟨C, hC⟩ : ∃ C, (encV q.2).1.length = C := ⟨_, rfl⟩
        have hwr : wrap64 ((A : Int) + (C : Int)) = ((A + C : Nat) : Int) := by rw [IntWalk.wrap64_in _ ⟨by omega, by omega⟩]; omega
        have hcall := bsize_any q.1 q.2 wr hT
        rw [hC] at hcall
        rw [hA]
        have hAC : 69 + sizesN (d.txs.take (j + 1)) = A + C := by omega
        rw [hae] at k5
        replace hT := Box.mk hT
        replace hq := Box.mk hq
        replace hdq := Box.mk hdq
        replace hr := Box.mk hr
        replace htk := Box.mk htk
        replace hle := Box.mk hle
        replace hle2 := Box.mk hle2
        replace hA := Box.mk hA
        replace hC := Box.mk hC
        replace hAC := Box.mk hAC
        replace hHr := Box.mk hHr
        replace hae := Box.mk hae
        replace hcall := Box.mk hcall
        go_wp2_with fail
        refine hcall.out.mono ?_
        rintro e w5 ⟨rfl, hb5⟩
        go_wp2
        go_roundw
        case rel => exact ⟨since_next hbr hb5, keepBlock hb5 hHr.out, j + 1, by omega, by go_num, by rw [hAC.out]; first | rfl | go_num⟩
        case measure => simp [intOf]; omega
      · obtain rfl : j = d.txs.length := by omega
        rw [List.take_length]
        rcases hV.out with ⟨hb0, hx⟩ | ⟨hx, hlen⟩
        · replace hb0 : bs = [] := hb0
          replace hx : x ≠ 0 := hx
          subst hb0
          have hx1 : (x == 0) = false := by simpa using hx
          have hx2 : (x != 0) = true := by simpa using hx
          go_wp2_with fail
          go_ret
          exact gives_bool rfl hbr
        · replace hx : x = 0 := hx
          replace hlen : bs.length = 69 + sizesN d.txs := hlen
          subst hx
          rw [← hlen]
          replace hlen := Box.mk hlen
          go_wp2_with fail
          go_ret
          exact gives_bool (by simp) hbr
  · go_enter Try.func8, Try.ntmps8
    go_wp2_with fail
    refine (heavy06_any v qs d _ (h.out.below hB0)).mono ?_
    rintro e w1 ⟨rfl, hb1⟩
    rw [hh]
    replace hh := Box.mk hh
    have W1 := hB0.trans (hb1.mono hB0.size)
    clear hb1 hs0
    go_wp2_with fail
    refine (shown06_any w1).mono ?_
    rintro e w2 ⟨rfl, hb2⟩
    go_wp2
    go_ret
    exact gives_bool rfl (W1.trans (hb2.mono W1.size))
end Go.Proofs.Ytahkiabpjfcfdaa
