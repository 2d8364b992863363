/- Package sha: Sum. -/
import Derived.Test.YtabikhmaiennpaaSha7
import Derived.Test.YtabikhmaiennpaaCodecRef3
namespace Go.Proofs.Ytabikhmaiennpaa
open Go.RowKit Go.Shelf
set_option linter.unusedVariables false
set_option linter.unusedSimpArgs false
set_option maxRecDepth 100000

/-- The hash, as a key. -/
def sumK (s : List UInt8) : Key := ⟨sumL s, sumL_length s⟩
def strLen : Value → Nat
  | .string s => s.size
  | _ => 0
theorem strLen_sB (q : List UInt8) : strLen (.string (sB q)) = q.length := sB_size q
theorem digest_length (h : List UInt32) : (digest h).length = 32 := by unfold digest; simp
theorem digest_get (h : List UInt32) {j : Nat} (hj : j < 32) : (digest h)[j]? = some (UInt8.ofNat ((h.getD (j / 4) 0).toNat / 2 ^ (8 * (3 - j % 4)))) := by
  unfold digest; rw [List.getElem?_map, List.getElem?_range hj]; rfl
theorem bC_cell {w : World} {b : Nat} {l : List UInt8} {t : TypeId} {fr : Nat × Nat} (hb : w.heap[b]? = some (.cells (bC l).toArray t fr)) {i : Nat} {x : UInt8} (h : l[i]? = some x) : w.cell? ⟨b, i, none⟩ = some (.int .u8 x.toNat) := by
  rw [cell_of_row w b i _ _ _ hb]
  simpa using bC_get h
theorem key_rowOf {w : World} {b : Nat} {k : Key} {t : TypeId} {fr : Nat × Nat} (hb : w.heap[b]? = some (.cells (keyC k).toArray t fr)) : rowOf w b 0 32 = some (keyC k) := by
  rw [rowOf_block hb 0 32 (by simp [keyC_length])]
  congr 1; simp
  exact List.take_of_length_le (by rw [keyC_length]; exact Nat.le_refl _)
theorem heap_setCell_bC {w : World} {b : Nat} {l : List UInt8} {t : TypeId} {fr : Nat × Nat} (hb : w.heap[b]? = some (.cells (bC l).toArray t fr)) (i : Nat) (x : UInt8) : (w.setCell ⟨b, i, none⟩ (.int .u8 x.toNat)).heap[b]? = some (.cells (bC (l.set i x)).toArray t fr) := by
  rw [← bC_set]
  simp only [World.setCell, Array.getElem?_modify, if_true, hb, Option.map_some]
  simp
theorem shr_u8 (x : UInt32) (r : Nat) (h : r < 4) : iw x / 2 ^ (8 * (3 - r)) % 256 = ((UInt8.ofNat (x.toNat / 2 ^ (8 * (3 - r)))).toNat : Int) := by
  rw [iw_eq]; simp

theorem heap_alloc_new' (w : World) (ob : Obj) (b : Nat) (hb : b = w.heap.size) : (w.alloc ob).heap[b]? = some ob := by subst hb; exact heap_alloc_new w ob
attribute [local irreducible] kL h0L
attribute [local irreducible] Int.lt Int.le
attribute [local go_sem] kL_length h0L_length kL_row h0L_row
attribute [local go_sem] rowOf_drew rowOf_alloc_old rowOf_alloc_new canPut_drew canPut_alloc_old canPut_alloc_new setCells_alloc_new
attribute [local go_sem ↓] load_u64w store_u64w alloc_u64w load_st store_st alloc_st load_key store_key alloc_key

set_option maxHeartbeats 4000000 in
theorem sum_any (s : List UInt8) (W : World) (hs : s.length ≤ 1000000) : Calls Try.prog 25 #[.string (sB s)] W (Gives (.agg (keyC (sumK s)).toArray) W) := by
  obtain ⟨P, hP⟩ : ∃ P, padL s = P := ⟨_, rfl⟩
  obtain ⟨H, hH⟩ : ∃ H, blocksH h0L P (P.length / 64) = H := ⟨_, rfl⟩
  have hH8 : H.length = 8 := by rw [← hH]; exact blocksH_length _ _ _ h0L_length
  have hK : sumK s = ⟨digest H, digest_length H⟩ := by unfold sumK sumL; simp only [hP, hH]
  rw [hK]
  obtain ⟨kH, hkH⟩ : ∃ k : Key, k = ⟨digest H, digest_length H⟩ := ⟨_, rfl⟩
  have hkv : keyC kH = bC (digest H) := by rw [keyC_bC, hkH]
  rw [← hkH]
  replace hkH := Box.mk hkH
  have hPm : P.length % 64 = 0 := by rw [← hP]; exact padL_mod s
  have hPl : P.length ≤ 1000200 := by rw [← hP, padL_length]; omega
  replace hK := Box.mk hK
  go_enter Try.func25, Try.ntmps25
  go_wp2_with fail
  rw [h0_cells]
  simp only [h0L_row]
  go_simp
  go_wp2_with fail
  have hB1 : Below W.heap.size W ((W.alloc (.cells (keyC zeroKey).toArray 23)).alloc (.cells (uC h0L).toArray 61)) := ((Below.refl _ _).alloc (Nat.le_refl _) _).alloc (by simp) _
  have hR1 : ((W.alloc (.cells (keyC zeroKey).toArray 23)).alloc (.cells (uC h0L).toArray 61)).heap[W.heap.size + 1]? = _ := heap_alloc_new' _ _ _ (by simp)
  have hO1 : ((W.alloc (.cells (keyC zeroKey).toArray 23)).alloc (.cells (uC h0L).toArray 61)).heap[W.heap.size]? = _ := (Below.heap_alloc _ _ _ (by simp)).trans (heap_alloc_new W _)
  generalize (W.alloc (.cells (keyC zeroKey).toArray 23)).alloc (.cells (uC h0L).toArray 61) = w1 at *
  obtain ⟨ob, hob⟩ : ∃ b, W.heap.size = b := ⟨_, rfl⟩
  obtain ⟨hb, hhb⟩ : ∃ b, ob + 1 = b := ⟨_, rfl⟩
  rw [hob] at hB1 hR1 hO1
  rw [hhb] at hR1
  rw [hob, hhb]
  have hoh : ob < hb := by omega
  have hne : ob ≠ hb := by omega
  replace hob := Box.mk hob
  replace hhb := Box.mk hhb
  refine (constants_any w1).mono ?_
  rintro e w2 ⟨rfl, hb2⟩
  have hl1 : hb < w1.heap.size := (Array.getElem?_eq_some_iff.1 hR1).1
  have hR2 := keepBlock hb2 hR1
  have hO2 := keepBlock hb2 hO1
  have hB2 : Below ob W w2 := hB1.trans (hb2.mono (by omega))
  have hl2 : hb < w2.heap.size := (Array.getElem?_eq_some_iff.1 hR2).1
  clear hB1 hR1 hO1 hb2 hl1
  go_wp2_with fail
  have hR3 : (w2.alloc (.cells (uC kL).toArray 55)).heap[hb]? = _ := (Below.heap_alloc _ _ _ hl2).trans hR2
  have hO3 : (w2.alloc (.cells (uC kL).toArray 55)).heap[ob]? = _ := (Below.heap_alloc _ _ _ (by omega)).trans hO2
  have hC3 := heap_alloc_new w2 (.cells (uC kL).toArray 55)
  have hB3 : Below ob W (w2.alloc (.cells (uC kL).toArray 55)) := hB2.alloc (by omega) _
  obtain ⟨kb, hkb⟩ : ∃ b, w2.heap.size = b := ⟨_, rfl⟩
  rw [hkb] at hC3
  rw [hkb]
  have hne2 : hb ≠ kb := by omega
  have hne3 : ob ≠ kb := by omega
  generalize w2.alloc (.cells (uC kL).toArray 55) = w3 at *
  clear hR2 hO2 hB2 hl2 hkb
  refine (pad_any s w3 hs).mono ?_
  rintro e w4 ⟨rfl, hb4⟩
  rw [hP]
  replace hP := Box.mk hP
  have hR4 := keepBlock hb4 hR3
  have hO4 := keepBlock hb4 hO3
  have hC4 := keepBlock hb4 hC3
  have hB4 : Below ob W w4 := hB3.trans (hb4.mono (by have := (Array.getElem?_eq_some_iff.1 hO3).1; omega))
  clear hR3 hO3 hC3 hB3 hb4
  go_wp2_with fail
  go_loopw [5] (fun p wr => Below ob W wr ∧ wr.heap[ob]? = some (.cells (keyC zeroKey).toArray 23 (0, 0)) ∧ wr.heap[kb]? = some (.cells (uC kL).toArray 55 (0, 0)) ∧ ∃ q h, p = .string (sB q) ∧ q.length ≤ P.length ∧ q.length % 64 = 0 ∧ h.length = 8 ∧ wr.heap[hb]? = some (.cells (uC h).toArray 61 (0, 0)) ∧ blocksH h q (q.length / 64) = H) (fun p _ => strLen p)
  case atStart => exact ⟨hB4, hO4, hC4, P, h0L, rfl, Nat.le_refl _, hPm, h0L_length, hR4, hH⟩
  case round =>
    obtain ⟨hbr, hO, hC, q, h, rfl, hql, hqm, hh8, hR, hq⟩ := hrel
    by_cases hq0 : q = []
    · subst hq0
      have e0 : (sB []) = (⟨#[]⟩ : ByteArray) := rfl
      obtain rfl : h = H := hq
      rw [e0]
      have hR' := Box.mk hR
      have hO' := Box.mk hO
      have hbr' := Box.mk hbr
      have eO : keyC zeroKey = bC (midK (digest h) 0) := by rw [keyC_bC]; rfl
      have eO' : keyC kH = bC (midK (digest h) 32) := by rw [hkv]; unfold midK; simp; rw [List.take_of_length_le (by rw [digest_length]; omega)]
      rw [eO] at hO
      clear hO4 hC4 hB4 hC hR4
      clear hR hbr
      replace eO := Box.mk eO
      replace eO' := Box.mk eO'
      replace hkv := Box.mk hkv
      go_wp2_with fail
      go_loopw [18] (fun i wr => Below ob W wr ∧ wr.heap[hb]? = some (.cells (uC h).toArray 61 (0, 0)) ∧ ∃ j : Nat, j ≤ 32 ∧ i = .int .i64 j ∧ wr.heap[ob]? = some (.cells (bC (midK (digest h) j)).toArray 23 (0, 0))) (fun i _ => 32 - (intOf i).toNat)
      case atStart => exact ⟨hbr'.out, hR'.out, 0, by omega, rfl, hO⟩
      case round =>
        obtain ⟨hbx, hRx, j, hj, rfl, hOx⟩ := hrel
        have hd32 : 32 ≤ (digest h).length := by rw [digest_length]; omega
        by_cases hlt : j < 32
        · have hlt' : (j : Int) < 32 := by omega
          have hset := midK_set hd32 hlt
          have hdj := digest_get h hlt
          have hgj : (digest h)[j] = UInt8.ofNat ((h.getD (j / 4) 0).toNat / 2 ^ (8 * (3 - j % 4))) := (List.getElem?_eq_some_iff.1 hdj).2
          replace hset := (congrArg (fun y => (midK (digest h) j).set j y) hgj.symm).trans hset
          obtain ⟨y, hy⟩ : ∃ y, (midK (digest h) j)[j]? = some y := ⟨_, List.getElem?_eq_getElem (by rw [midK_length hd32 hj]; exact hlt)⟩
          have cO := bC_cell hOx hy
          have fO : wr.frozen? ⟨ob, j, none⟩ = false := frozen_of_row _ _ _ _ _ hOx
          obtain ⟨x, hx⟩ : ∃ x, h[j / 4]? = some x := ⟨_, List.getElem?_eq_getElem (by omega)⟩
          rw [List.getD_eq_getElem?_getD, hx] at hset
          have cR := uC_cell hRx hx
          obtain ⟨d, hd⟩ : ∃ d, j / 4 = d := ⟨_, rfl⟩
          obtain ⟨r, hr⟩ : ∃ r, j % 4 = r := ⟨_, rfl⟩
          rw [hd] at cR
          rw [hr] at hset
          have hd1 : (j : Int) / 4 = d := by omega
          have hr1 : (j : Int) % 4 = r := by omega
          have hr4 : (r : Int) ≤ 3 := by omega
          have hd8 : (d : Int) < 8 := by omega
          have hsh := shr_u8 x r (by omega)
          have hst := heap_setCell_bC hOx j (UInt8.ofNat (x.toNat / 2 ^ (8 * (3 - r))))
          rw [show (midK (digest h) j).set j (UInt8.ofNat (x.toNat / 2 ^ (8 * (3 - r)))) = midK (digest h) (j + 1) from hset] at hst
          clear hset hdj hgj hy hx hd hr
          go_wp2_with fail
          have e : ((x.toNat : Int) / 2 ^ (8 * (3 - r)) % 256) = ((UInt8.ofNat (x.toNat / 2 ^ (8 * (3 - r)))).toNat : Int) := by simp
          rw [e]
          exact ⟨⟨Below.setCell hbx (Nat.le_refl _) _, (Below.heap_setCell _ _ _ _ (Ne.symm hne)).trans hRx, j + 1, by omega, by go_num, hst⟩, by simp [intOf]; omega⟩
        · obtain rfl : j = 32 := by omega
          have hge : ¬ ((32 : Nat) : Int) < 32 := by omega
          rw [← eO'.out] at hOx
          have hro := key_rowOf hOx
          have hOb := Box.mk hOx
          have hpu : canPut wr ob 0 32 = true := canPut_block hOx 0 32 (by simp [keyC_length])
          go_wp2_with fail
          have hrow := rowOf_of_rangeAt (World.rangeAt_setCells_same wr ob 0 (keyC kH) (by rw [keyC_length]; exact canPut_there.1 hpu)) (keyC_length kH)
          refine bodyPost_ret (v := .agg (keyC kH).toArray) (res1 Try.results25 (res_key (b := ob) (o := 0) (by simp [go_sem]) hrow)) rfl ?_
          rw [← hob.out] at hbx ⊢
          exact gives rfl (below_setCells (Nat.le_refl _) _ _ _ _ hbx)
    · have hq64 : 64 ≤ q.length := by
        have : q.length ≠ 0 := fun e => hq0 (List.length_eq_zero_iff.1 e)
        omega
      have hq64' : (64 : Int) ≤ q.length := by omega
      have hqe : q.isEmpty = false := by cases q with | nil => exact absurd rfl hq0 | cons _ _ => rfl
      have hx1 : (sB q).extract 0 64 = sB (q.take 64) := by rw [sB_extract, List.drop_zero]
      have hx2 : (sB q).extract 64 q.length = sB (q.drop 64) := by rw [sB_extract, List.take_length]
      go_wp2_with fail
      have hst := stOf_toL hh8
      have hbk := block_any (stOf h) (q.take 64) hb kb wr (by rw [List.length_take]; omega) hne2 (by rw [← hst]; exact hR) hC
      rw [← hst] at hbk
      refine hbk.mono ?_
      rintro e w5 ⟨rfl, hR5, hN⟩
      have hO5 := hN.keep hO hne
      have hC5 := hN.keep hC (Ne.symm hne2)
      have hB5 : Below ob W w5 := hbr.trans (hN.below (by have := (Array.getElem?_eq_some_iff.1 hO).1; omega) (by omega))
      have hql' : (q.drop 64).length = q.length - 64 := List.length_drop
      have hq' : blocksH (comp h (wordsL (q.take 64))) (q.drop 64) ((q.drop 64).length / 64) = H := by
        rw [← hq, show q.length / 64 = (q.length - 64) / 64 + 1 from by omega, blocksH, hql']
      have hlc := comp_length (m := wordsL (q.take 64)) hh8
      clear hbk hst hO hC hR hN hbr hO4 hC4 hB4 hR4
      generalize comp h (wordsL (q.take 64)) = h2 at *
      replace hO5 := Box.mk hO5
      replace hC5 := Box.mk hC5
      replace hR5 := Box.mk hR5
      go_wp2
      go_roundw
      case rel => exact ⟨hB5, hO5.out, hC5.out, q.drop 64, h2, rfl, by omega, by omega, hlc, hR5.out, hq'⟩
      case measure => simp only [strLen_sB]; omega

end Go.Proofs.Ytabikhmaiennpaa
