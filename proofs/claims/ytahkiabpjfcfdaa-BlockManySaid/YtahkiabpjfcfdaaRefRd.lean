/- Layer 5: the document's many, keys, part. (printed by mkrefrd.py) -/
import Derived.Test.YtahkiabpjfcfdaaRd5
import Derived.Test.YtahkiabpjfcfdaaTxR
import Derived.Test.YtahkiabpjfcfdaaBase2
namespace Go.Proofs.Ytahkiabpjfcfdaa
open Go.RowKit
set_option linter.unusedVariables false
set_option linter.unusedSimpArgs false
set_option maxRecDepth 100000

theorem keyV_ok {s r : List UInt8} {k : Key} (h : keyR s = .ok (k, r)) : keyV s = (k, r, 0) := by
  by_cases hl : 32 ≤ s.length
  · rw [keyR_well hl] at h
    injection h with h
    injection h with h1 h2
    subst h1 h2
    unfold keyV; rw [dif_pos hl]
  · rw [keyR_short hl] at h; cases h
theorem keyV_err {s : List UInt8} {x : Int} (h : keyR s = .error x) : keyV s = (zeroKey, [], 30) ∧ x = 30 := by
  by_cases hl : 32 ≤ s.length
  · rw [keyR_well hl] at h; cases h
  · rw [keyR_short hl] at h
    injection h with h
    exact ⟨by unfold keyV; rw [dif_neg hl], h.symm⟩
theorem getV_ok {k n : Nat} {s r : List UInt8} (hk : 1 ≤ k) (h8 : k ≤ 8) (h : numR k s = .ok (n, r)) : getV s k = (n, r, 0) := by
  by_cases hl : s.length < k
  · rw [numR_short hl] at h; cases h
  · rw [numR_well hl] at h
    injection h with h
    injection h with h1 h2
    subst h1 h2
    exact getV_well hk h8 hl
theorem getV_err {k : Nat} {s : List UInt8} {x : Int} (hk : 1 ≤ k) (h8 : k ≤ 8) (h : numR k s = .error x) : getV s k = (0, [], 30) ∧ x = 30 := by
  by_cases hl : s.length < k
  · rw [numR_short hl] at h
    injection h with h
    exact ⟨getV_short hk h8 hl, h.symm⟩
  · rw [numR_well hl] at h; cases h
theorem readV_ok {n : Nat} {s r : List UInt8} (h : manyR s = .ok (n, r)) : readV s = (n, r, 0) ∧ n ≤ 40 := by
  refine ⟨?_, (manyR_le h).2⟩
  by_cases h0 : (readV s).2.2 = 0
  · by_cases h2 : 40 < (readV s).1
    · rw [manyR_many h0 h2] at h; cases h
    · rw [manyR_well h0 h2] at h
      injection h with h
      injection h with h1 h3
      rw [← h1, ← h3, ← h0]
  · rw [manyR_err h0] at h; cases h
theorem readV_err {s : List UInt8} {x : Int} (h : manyR s = .error x) : (∃ n r, readV s = (n, r, x) ∧ ¬ x = 0) ∨ (x = 51 ∧ ∃ n r, readV s = (n, r, 0) ∧ 40 < n) := by
  by_cases h0 : (readV s).2.2 = 0
  · by_cases h2 : 40 < (readV s).1
    · rw [manyR_many h0 h2] at h
      injection h with h
      exact .inr ⟨h.symm, _, _, by rw [← h0], h2⟩
    · rw [manyR_well h0 h2] at h; cases h
  · rw [manyR_err h0] at h
    injection h with h
    subst h
    exact .inl ⟨_, _, rfl, h0⟩
/-- What many gives. -/
@[irreducible] def manyV (s : List UInt8) : Nat × List UInt8 × Int := match manyR s with | .ok (n, r) => (n, r, 0) | .error x => (0, [], x)
def valMn (r : Nat × List UInt8 × Int) : Value := .tuple #[.int .i64 r.1, .string (sB r.2.1), .int .i64 r.2.2]
theorem manyV_ok {n : Nat} {s r : List UInt8} (h : manyR s = .ok (n, r)) : manyV s = (n, r, 0) := by unfold manyV; rw [h]
theorem manyV_err {s : List UInt8} {x : Int} (h : manyR s = .error x) : manyV s = (0, [], x) := by unfold manyV; rw [h]
theorem manyR_errne {s : List UInt8} {x : Int} (h : manyR s = .error x) : ¬ x = 0 := by
  rcases readV_err h with ⟨_, _, _, h⟩ | ⟨h, _⟩
  · exact h
  · omega

attribute [local irreducible] Int.lt Int.le
attribute [local go_sem ↓] load_key store_key alloc_key build0_key eq_key load_point store_point alloc_point load_out store_out alloc_out load_tx store_tx alloc_tx build0_tx build_pt build_out one_key one_point one_out rappend_pt rappend_out rappend_key
attribute [local go_sem] rowOf_drew rowOf_alloc_old rowOf_alloc_new canPut_drew canPut_alloc_old canPut_alloc_new setCells_alloc_new

set_option maxHeartbeats 1000000 in
theorem refMany_any (s : List UInt8) (W : World) (hs : s.length ≤ 1000000) : Calls Try.prog 111 #[.string (sB s)] W (Gives (valMn (manyV s)) W) := by
  have hR := refRead_any s W (by omega)
  rcases hm : manyR s with x | ⟨n, r⟩
  · have hV := manyV_err hm
    rw [hV]
    rcases readV_err hm with ⟨n, r, hv, hx⟩ | ⟨rfl, n, r, hv, hx⟩
    · rw [hv] at hR
      replace hm := Box.mk hm
      replace hV := Box.mk hV
      replace hv := Box.mk hv
      replace hs := Box.mk hs
      go_enter Try.func111, Try.ntmps111
      go_wp2_with fail
      refine hR.mono ?_
      rintro e w1 ⟨rfl, b1⟩
      simp only [val3]
      clear hR
      go_wp2
      refine bodyPost_ret (v := valMn (0, [], x)) (by simp [results, Try.results111, go_sem, valMn]; try rfl) rfl ?_
      exact gives rfl b1
    · rw [hv] at hR
      have hx' : (40 : Int) < n := by omega
      replace hm := Box.mk hm
      replace hV := Box.mk hV
      replace hv := Box.mk hv
      replace hs := Box.mk hs
      go_enter Try.func111, Try.ntmps111
      go_wp2_with fail
      refine hR.mono ?_
      rintro e w1 ⟨rfl, b1⟩
      simp only [val3]
      clear hR
      go_wp2
      refine bodyPost_ret (v := valMn (0, [], 51)) (by simp [results, Try.results111, go_sem, valMn]; try rfl) rfl ?_
      exact gives rfl b1
  · have hV := manyV_ok hm
    rw [hV]
    obtain ⟨hv, hn⟩ := readV_ok hm
    rw [hv] at hR
    have hx' : ¬ (40 : Int) < n := by omega
    have hn' : (IntKind.i64.wrap (n : Int)) = n := IntWalk.i64_in _ (by omega)
    replace hm := Box.mk hm
    replace hV := Box.mk hV
    replace hv := Box.mk hv
    replace hs := Box.mk hs
    go_enter Try.func111, Try.ntmps111
    go_wp2_with fail
    refine hR.mono ?_
    rintro e w1 ⟨rfl, b1⟩
    simp only [val3]
    clear hR
    go_wp2
    refine bodyPost_ret (v := valMn (n, r, 0)) (by simp [results, Try.results111, go_sem, valMn, hn']; try rfl) rfl ?_
    exact gives rfl b1

/-- What keys comes to. -/
def KeysTo (W : World) : Got (List Key) → Ending → World → Prop
  | .ok (l, r), e, w' => ∃ a n c, e = .returned (.tuple #[.slice a n c, .string (sB r), .int .i64 0]) ∧ Own keyC 32 38 w' W.heap.size (.slice a n c) l ∧ Below W.heap.size W w'
  | .error x, e, w' => e = .returned (.tuple #[.slice none 0 0, .string (sB []), .int .i64 x]) ∧ Below W.heap.size W w'
theorem KeysTo.mk {W w' : World} {o : Got (List Key)} {l : List Key} {r : List UInt8} {a : Option Addr} {n c : Nat} (h : o = .ok (l, r)) (ho : Own keyC 32 38 w' W.heap.size (.slice a n c) l) (hb : Below W.heap.size W w') : KeysTo W o (.returned (.tuple #[.slice a n c, .string (sB r), .int .i64 0])) w' := by subst h; exact ⟨a, n, c, rfl, ho, hb⟩
theorem KeysTo.err {W w' : World} {o : Got (List Key)} {x : Int} (h : o = .error x) (hb : Below W.heap.size W w') : KeysTo W o (.returned (.tuple #[.slice none 0 0, .string (sB []), .int .i64 x])) w' := by subst h; exact ⟨rfl, hb⟩

set_option maxHeartbeats 2000000 in
theorem refKeys_any (n : Nat) (s : List UInt8) (W : World) (hn : n ≤ 40) (hs : s.length ≤ 1000000) : Calls Try.prog 112 #[.int .i64 n, .string (sB s)] W (KeysTo W (listR keyR n s)) := by
  have hO := Own.empty keyC 32 38 W W.heap.size W.heap.size rfl (Nat.le_refl _)
  have hB1 : Below W.heap.size W (W.alloc (.cells #[] 38)) := (Below.refl _ _).alloc (Nat.le_refl _) _
  have hsb := Box.mk hs
  replace hO := Box.mk hO
  clear hs
  go_enter Try.func112, Try.ntmps112
  go_wp2_with fail
  go_loopw [1, 7, 8] (fun sv v i wr => Below W.heap.size W wr ∧ ∃ j : Nat, ∃ s' : List UInt8, ∃ l' : List Key, j ≤ n ∧ i = .int .i64 j ∧ sv = .string (sB s') ∧ s'.length ≤ 1000000 ∧ l'.length = j ∧ behind l' (listR keyR (n - j) s') = listR keyR n s ∧ ∃ u c, v = .slice u j c ∧ Own keyC 32 38 wr W.heap.size (.slice u j c) l') (fun _ _ i _ => n - (intOf i).toNat)
  case atStart => exact ⟨hB1, 0, s, [], Nat.zero_le _, rfl, rfl, hsb.out, rfl, behind_nil _, _, _, rfl, hO.out⟩
  case round =>
    obtain ⟨hbr, j, s', l', hj, rfl, rfl, hsl, hll, heq, u, c, rfl, hown⟩ := hrel
    have hsz := hbr.size
    by_cases hlt : j < n
    · have hlt' : (j : Int) < (n : Int) := by omega
      have hj1 : n - j = (n - (j + 1)) + 1 := by omega
      rw [hj1] at heq
      replace hj1 := Box.mk hj1
      replace hll := Box.mk hll
      have hK := refKey_any s' wr (by omega)
      replace hsl := Box.mk hsl
      have hownb := Box.mk hown
      clear hown
      rcases hx : keyR s' with y | ⟨x, q⟩
      · have hR : listR keyR n s = .error y := by rw [← heq]; exact behind_error l' hx
        obtain ⟨hv, rfl⟩ := keyV_err hx
        rw [hv] at hK
        replace hR := Box.mk hR
        replace heq := Box.mk heq
        replace hx := Box.mk hx
        replace hv := Box.mk hv
        go_wp2_with fail
        refine hK.mono ?_
        rintro e w1 ⟨rfl, b1⟩
        simp only [valK]
        clear hK
        go_wp2
        refine bodyPost_ret (v := .tuple #[.slice none 0 0, .string (sB []), .int .i64 30]) (by simp [results, Try.results112, go_sem]; try rfl) rfl ?_
        exact KeysTo.err hR.out (since_alloc (since_next hbr b1) _)
      · have heq2 : behind (l' ++ [x]) (listR keyR (n - (j + 1)) q) = listR keyR n s := by rw [← heq]; exact (behind_ok l' hx).symm
        have hle := keyR_le hx
        have hq : q.length ≤ 1000000 := by have := hsl.out; omega
        have hv := keyV_ok hx
        rw [hv] at hK
        replace hq := Box.mk hq
        replace heq := Box.mk heq
        replace heq2 := Box.mk heq2
        replace hle := Box.mk hle
        replace hx := Box.mk hx
        replace hv := Box.mk hv
        go_wp2_with fail
        refine hK.mono ?_
        rintro e w1 ⟨rfl, b1⟩
        simp only [valK]
        clear hK
        have s1 := b1.size
        have b2 : Below W.heap.size W (w1.alloc (.cells (keyC x).toArray 38)) := since_alloc (since_next hbr b1) _
        have hown2 := (hownb.out.below b1).below ((Below.refl _ _).alloc (Nat.le_refl _) (.cells (keyC x).toArray 38))
        have hs2 : (w1.alloc (.cells (keyC x).toArray 38)).heap.size = w1.heap.size + 1 := by simp
        go_wp2_with fail
        obtain ⟨u', c', w3, hap, hown3, hb3, hs3⟩ := rapp_key (ty := 39) hown2 (by omega) x (by have := hll.out; omega)
        rw [hll.out] at hap hown3
        rw [hs2] at hap
        rw [hap]
        replace hown2 := Box.mk hown2
        replace hown3 := Box.mk hown3
        replace hap := Box.mk hap
        clear hs2
        go_wp2
        go_roundw
        case rel => exact ⟨b2.trans hb3, j + 1, q, l' ++ [x], by omega, by go_num, rfl, hq.out, by simp [hll.out], heq2.out, u', c', rfl, hown3.out⟩
        case measure => simp [intOf]; omega
    · obtain rfl : j = n := by omega
      rw [Nat.sub_self, behind_zero] at heq
      replace heq := Box.mk heq.symm
      replace hown := Box.mk hown
      replace hll := Box.mk hll
      replace hsl := Box.mk hsl
      go_wp2
      refine bodyPost_ret (v := .tuple #[.slice u j c, .string (sB s'), .int .i64 0]) (by simp [results, Try.results112, go_sem]; try rfl) rfl ?_
      exact KeysTo.mk heq.out hown.out hbr

/-- What part comes to: the transaction so far and what is left, or an errno. -/
def PartTo (W : World) (t : TxV) (d : TxD) (o : Got (TxD → TxD)) : Ending → World → Prop := fun e w' => match o with
  | .ok (f, r) => ∃ t', e = .returned (valR t' r 0) ∧ TxL w' t' (f d) ∧ Below W.heap.size W w'
  | .error x => ¬ x = 0 ∧ (∃ t' r, e = .returned (valR t' r x)) ∧ Below W.heap.size W w'

end Go.Proofs.Ytahkiabpjfcfdaa
