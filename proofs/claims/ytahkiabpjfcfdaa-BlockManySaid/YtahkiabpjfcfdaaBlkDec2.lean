/- Package block: the last step of Decode: the transactions. -/
import Derived.Test.YtahkiabpjfcfdaaBlkDec1
import Derived.Test.YtahkiabpjfcfdaaTxR
namespace Go.Proofs.Ytahkiabpjfcfdaa
open Go.RowKit
set_option linter.unusedVariables false
set_option linter.unusedSimpArgs false
set_option maxRecDepth 100000

theorem DV.grown {S Kb N B : Nat} {w w' : World} {s : List UInt8} {v : BlkV} {n : Nat} (h : DV S Kb N w s v n) (hb : Below B w w') (hNB : N < B) : DV S Kb N w' s v n :=
  ⟨h.ord, (hb.block _ (by have := h.ord; omega)).trans h.str, (hb.block _ (by have := h.ord; omega)).trans h.blk, (hb.block _ hNB).trans h.num⟩
/-- What the last step comes to. -/
def TxsTo (S Kb N B : Nat) (v : BlkV) (n : Nat) : Got (List TxD) → Ending → World → Prop
  | .ok (l, q), e, w' => (q = [] → e = .returned (.int .i64 0) ∧ ∃ u m c qs, DV S Kb N w' [] { v with txs := ⟨u, m, c⟩ } n ∧ TL B w' (.slice u m c) qs ∧ qs.map (·.2) = l) ∧ (q ≠ [] → e = .returned (.int .i64 50))
  | .error x, e, w' => e = .returned (.int .i64 x)
theorem TxsTo.ok {S Kb N B : Nat} {v : BlkV} {n : Nat} {T : Got (List TxD)} {w' : World} {u : Option Addr} {m c : Nat} {qs : List (TxV × TxD)} (h : .ok (qs.map (·.2), []) = T) (hV : DV S Kb N w' [] { v with txs := ⟨u, m, c⟩ } n) (hL : TL B w' (.slice u m c) qs) : TxsTo S Kb N B v n T (.returned (.int .i64 0)) w' := by
  subst h
  exact ⟨fun _ => ⟨rfl, u, m, c, qs, hV, hL, rfl⟩, fun h => absurd rfl h⟩
theorem TxsTo.more {S Kb N B : Nat} {v : BlkV} {n : Nat} {T : Got (List TxD)} {w' : World} {l : List TxD} {q : List UInt8} (h : .ok (l, q) = T) (hq : q ≠ []) : TxsTo S Kb N B v n T (.returned (.int .i64 50)) w' := by
  subst h
  exact ⟨fun h => absurd h hq, fun _ => rfl⟩
theorem txR_le {s r : List UInt8} {d : TxD} (h : txR s = .ok (d, r)) : r.length ≤ s.length := by
  obtain ⟨h1, _⟩ := tx_one h
  rw [h1, List.length_append]; omega

attribute [local irreducible] Int.lt Int.le
attribute [local go_sem ↓] load_key store_key alloc_key build0_key eq_key load_tx store_tx alloc_tx build0_tx load_blk store_blk alloc_blk build0_blk append_tx one_tx
attribute [local go_sem] rowOf_drew rowOf_alloc_old rowOf_alloc_new canPut_drew canPut_alloc_old canPut_alloc_new setCells_alloc_new

set_option maxHeartbeats 4000000 in
theorem dtxs_any {S Kb N B : Nat} {w : World} {s : List UInt8} {v : BlkV} {n : Nat} (h : DV S Kb N w s v n) (hNB : N < B) (hBw : B ≤ w.heap.size) (hs : s.length ≤ 1000000) (hn : n ≤ 30) (hv : v.txs = .nil) :
    Calls Try.prog 59 #[.pointer (some ⟨N, 0, none⟩), .pointer (some ⟨S, 0, none⟩), .pointer (some ⟨Kb, 0, none⟩)] w (fun e w' => DK S Kb N B w w' ∧ TxsTo S Kb N B v n (listR txR n s) e w') := by
  obtain ⟨o1, o2⟩ := h.ord
  obtain ⟨c1, c2, c3, c4, c5, c6, c7⟩ := h.cells
  have V0 : DV S Kb N w s { v with txs := ⟨none, 0, 0⟩ } n := by
    have : { v with txs := ⟨none, 0, 0⟩ } = v := by cases v; simp only at hv; subst hv; rfl
    rw [this]; exact h
  obtain ⟨T, hT⟩ : ∃ T, listR txR n s = T := ⟨_, rfl⟩
  have hT0 := hT
  rw [hT]
  replace V0 := Box.mk V0
  replace hT0 := Box.mk hT0
  replace hv := Box.mk hv
  replace h := Box.mk h
  replace hT := Box.mk hT
  clear c1 c2 c3 c5 c7
  have hn' := Box.mk hn
  go_enter Try.func59, Try.ntmps59
  go_wp2_with fail
  clear c4 c6
  go_loopw [8] (fun i wr => DK S Kb N B w wr ∧ ∃ (j : Nat) (r : List UInt8) (u : Option Addr) (m c : Nat) (qs : List (TxV × TxD)), j ≤ n ∧ i = .int .u64 j ∧ DV S Kb N wr r { v with txs := ⟨u, m, c⟩ } n ∧ TL B wr (.slice u m c) qs ∧ qs.length = j ∧ r.length ≤ 1000000 ∧ behind (qs.map (·.2)) (listR txR (n - j) r) = T) (fun i _ => n - (intOf i).toNat)
  case atStart => exact ⟨DK.refl _ _ _ _ _, 0, s, none, 0, 0, [], Nat.zero_le _, rfl, V0.out, TL.nil _ _, rfl, hs, by rw [Nat.sub_zero, List.map_nil, behind_nil]; exact hT0.out⟩
  case round =>
    obtain ⟨hK, j, r, u, m, c, qs, hj, rfl, V, L, hqj, hr, hB⟩ := hrel
    obtain ⟨c1, c2, c3, c4, c5, c6, c7⟩ := V.cells
    by_cases hlt : j < n
    · have hlt' : (j : Int) < n := by omega
      have hj64 : ((j : Int) + 1) % 18446744073709551616 = (j : Int) + 1 := by omega
      have hnj : n - j = (n - (j + 1)) + 1 := by omega
      rw [hnj] at hB
      have hws := hK.size
      rcases hx : txR r with x | ⟨d, r'⟩
      · have hTx : T = .error x := by rw [← hB]; exact behind_error _ hx
        have hne := txR_errne hx
        have hx2 : (x != 0) = true := by simpa using hne
        have hcall := txRead_any r wr hr
        rw [hx] at hcall
        replace hTx := Box.mk hTx
        replace hne := Box.mk hne
        replace hx := Box.mk hx
        replace hB := Box.mk hB
        replace hcall := Box.mk hcall
        replace V := Box.mk V
        replace L := Box.mk L
        replace hK := Box.mk hK
        clear c4 c5 hj64 hnj
        go_wp2_with fail
        refine hcall.out.mono ?_
        rintro e w1 ⟨rfl, hb⟩
        have k2 := Box.mk (hK.out.next (hb.alloc hb.size (.cells (txC zeroTx).toArray 41)) (by omega))
        unfold valR
        clear c1 c2 c3 c6 c7
        go_wp2_with fail
        go_ret
        exact ⟨k2.out, by rw [hTx.out]; rfl⟩
      · have hB2 : behind ((qs.map (·.2)) ++ [d]) (listR txR (n - (j + 1)) r') = T := by rw [← hB]; exact (behind_ok _ hx).symm
        have hle := txR_le hx
        have hcall := txRead_any r wr hr
        rw [hx] at hcall
        replace hx := Box.mk hx
        replace hB := Box.mk hB
        replace hcall := Box.mk hcall
        replace V := Box.mk V
        replace hK := Box.mk hK
        have hul : ∀ k, (Value.slice u m c).ownBlock = some k → k < wr.heap.size := fun k hk => by
          cases u with
          | none => cases hk
          | some a => injection hk with hk; subst hk; exact (L.own.at a rfl).2
        replace L := Box.mk L
        replace hul := Box.mk hul
        clear c4 c5 hnj
        go_wp2_with fail
        refine hcall.out.mono ?_
        rintro e w1 ⟨t, rfl, ht, hb⟩
        have hA : Below w1.heap.size w1 (w1.alloc (.cells (txC t).toArray 41)) := (Below.refl _ _).alloc (Nat.le_refl _) _
        have hb2 := hb.alloc hb.size (.cells (txC t).toArray 41)
        have R2 := tx_row (heap_alloc_new w1 (.cells (txC t).toArray 41))
        have z2 : (w1.alloc (.cells (txC t).toArray 41)).heap.size = w1.heap.size + 1 := by simp
        have z1 := hb.size
        have V2 := V.out.below hb2
        have k2 := hK.out.next hb2 (by omega)
        obtain ⟨g, c', w3, hap, L3, hb3, hg⟩ := (L.out.below hb2).push (ty := 48) (ht.below hA) (by omega) hul.out (by omega) (by omega)
        have l2 : w1.heap.size < (w1.alloc (.cells (txC t).toArray 41)).heap.size := by omega
        unfold valR
        replace hb := Box.mk hb
        replace ht := Box.mk ht
        rw [z2] at hap
        have V1 := V.out.below hb.out
        have V3 := V2.grown hb3 hNB
        have V4 := V3.setK (blkC_set65 _ (some ⟨g, 0, none⟩) (qs.length + 1) c')
        have V5 := V4.setS r'
        have k5 := Box.mk (((k2.trans (DK.grown hb3 (by omega))).setCell Kb (by omega) (by omega) 65 (.slice (some ⟨g, 0, none⟩) (qs.length + 1) c')).setCell S (by omega) (Nat.le_refl _) 0 (.string (sB r')))
        have L5 := Box.mk (L3.congr (w' := (w3.setCell ⟨Kb, 65, none⟩ (.slice (some ⟨g, 0, none⟩) (qs.length + 1) c')).setCell ⟨S, 0, none⟩ (.string (sB r'))) (fun b h1 h2 => ((heap_setCell_ne' (by omega) _).trans (heap_setCell_ne' (by omega) _))) (by simp [World.setCell]))
        have q2 := (blk_all V1.blk).2.2.2.2.2
        have m2 := (blk_all V1.blk).1
        replace V1 := Box.mk V1
        replace hA := Box.mk hA
        have q3 := (blk_all V3.blk).2.2.2.2.2
        have f3 := V3.frozen 65
        have m3 := (blk_all V3.blk).1
        obtain ⟨_, f4, m4, _, _, _, _⟩ := V4.cells
        replace V2 := Box.mk V2
        replace V3 := Box.mk V3
        replace V4 := Box.mk V4
        replace V5 := Box.mk V5
        replace L3 := Box.mk L3
        replace k2 := Box.mk k2
        replace hb3 := Box.mk hb3
        replace hb2 := Box.mk hb2
        replace hB2 := Box.mk hB2
        replace hqj := Box.mk hqj
        clear c1 c2 c3 c6 c7
        go_wp2
        go_roundw
        case rel => exact ⟨k5.out, j + 1, r', _, _, _, _, by omega, by go_num, V5.out, L5.out, by have := hqj.out; simp; omega, by omega, by rw [List.map_append]; exact hB2.out⟩
        case measure => simp [intOf]; omega
    · obtain rfl : j = n := by omega
      rw [Nat.sub_self, behind_zero] at hB
      have hlt' : ¬ (j : Int) < j := by omega
      by_cases hr0 : r = []
      · subst hr0
        replace hB := Box.mk hB
        replace V := Box.mk V
        replace L := Box.mk L
        replace hK := Box.mk hK
        go_wp2_with fail
        go_ret
        exact ⟨hK.out, TxsTo.ok hB.out V.out L.out⟩
      · have hne := isEmpty_ne hr0
        replace hB := Box.mk hB
        replace V := Box.mk V
        replace L := Box.mk L
        replace hK := Box.mk hK
        replace hr0 := Box.mk hr0
        go_wp2_with fail
        go_ret
        exact ⟨hK.out, TxsTo.more hB.out hr0.out⟩
end Go.Proofs.Ytahkiabpjfcfdaa
