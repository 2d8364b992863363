/- Package tx: the reader's methods. -/
import Derived.Test.YtahkiabpjfcfdaaPar
import Derived.Test.YtahkiabpjfcfdaaBase
namespace Go.Proofs.Ytahkiabpjfcfdaa
open Go.RowKit
set_option linter.unusedVariables false
set_option linter.unusedSimpArgs false
set_option maxRecDepth 100000
attribute [local irreducible] Int.lt Int.le
attribute [local go_sem ↓] load_key store_key alloc_key build0_key eq_key load_point store_point alloc_point load_out store_out alloc_out load_tx store_tx alloc_tx
attribute [local go_sem] rowOf_drew rowOf_alloc_old rowOf_alloc_new canPut_drew canPut_alloc_old canPut_alloc_new setCells_alloc_new

/-- What the reader at block b has still to read. -/
structure RD (b : Nat) (w : World) (s : List UInt8) : Prop where
  heap : w.heap[b]? = some (.cells #[.string (sB s)] 123 (0, 0))
theorem RD.lt {b : Nat} {w : World} {s : List UInt8} (h : RD b w s) : b < w.heap.size := (Array.getElem?_eq_some_iff.1 h.heap).1
theorem RD.cell {b : Nat} {w : World} {s : List UInt8} (h : RD b w s) : w.cell? ⟨b, 0, none⟩ = some (.string (sB s)) ∧ w.frozen? ⟨b, 0, none⟩ = false ∧ b < w.heap.size :=
  ⟨by rw [cell_of_row w b 0 _ _ _ h.heap]; rfl, frozen_of_row w b 0 _ _ h.heap, h.lt⟩
theorem RD.below {b : Nat} {w w' : World} {s : List UInt8} (h : RD b w s) (hb : Below w.heap.size w w') : RD b w' s := ⟨keepBlock hb h.heap⟩
theorem RD.put {b : Nat} {w : World} {s : List UInt8} (h : RD b w s) (r : List UInt8) : RD b (w.setCell ⟨b, 0, none⟩ (.string (sB r))) r := ⟨heap_setCell_one h.heap _⟩
/-- The panic with this errno. -/
def dead (x : Int) : List PanicEntry := [{ v := .iface 52 (.int .i64 x), recovered := false }]
/-- What a reader's function comes to. -/
def RTo {α : Type} (b : Nat) (w : World) (V : α → World → Value → Prop) : Got α → Ending → World → Prop
  | .ok (x, r), e, w' => ∃ v, e = .returned v ∧ V x w' v ∧ RD b w' r ∧ Oth b w w'
  | .error n, e, w' => e = .panicked (dead n) ∧ Oth b w w'

theorem RTo.err {α : Type} {b : Nat} {w w' : World} {V : α → World → Value → Prop} {o : Got α} {x : Int} (h : o = .error x) (ho : Oth b w w') : RTo b w V o (.panicked (dead x)) w' := by subst h; exact ⟨rfl, ho⟩
theorem RTo.mk {α : Type} {b : Nat} {w w' : World} {V : α → World → Value → Prop} {o : Got α} {x : α} {r : List UInt8} {v : Value} (h : o = .ok (x, r)) (hv : V x w' v) (hd : RD b w' r) (ho : Oth b w w') : RTo b w V o (.returned v) w' := by subst h; exact ⟨v, rfl, hv, hd, ho⟩

theorem next_ok {b : Nat} {w : World} {s : List UInt8} (h : RD b w s) (r : List UInt8) :
    Calls Try.prog 110 #[.pointer (some ⟨b, 0, none⟩), .string (sB r), .int .i64 0] w (fun e w' => e = .returned (.tuple #[]) ∧ RD b w' r ∧ Oth b w w') := by
  obtain ⟨c1, c2, c3⟩ := h.cell
  have hp := h.put r
  have ho : Oth b w (w.setCell ⟨b, 0, none⟩ (.string (sB r))) := (Oth.refl b w).setCell 0 _
  replace h := Box.mk h
  go_enter Try.func110, Try.ntmps110
  go_wp2
  go_end0
  exact ⟨rfl, hp, ho⟩
theorem next_err {b : Nat} {w : World} (r : ByteArray) (x : Int) (hx : ¬ x = 0) :
    Calls Try.prog 110 #[.pointer (some ⟨b, 0, none⟩), .string r, .int .i64 x] w (fun e w' => e = .panicked (dead x) ∧ Oth b w w') := by
  go_enter Try.func110, Try.ntmps110
  go_wp2
  exact ⟨rfl, rfl, Oth.refl _ _⟩

set_option maxHeartbeats 1000000 in
theorem number_any (k : Nat) (hk : 1 ≤ k) (h8 : k ≤ 8) {b : Nat} {w : World} {s : List UInt8} (h : RD b w s) :
    Calls Try.prog 93 #[.pointer (some ⟨b, 0, none⟩), .int .i64 k] w (RTo b w (fun (n : Nat) _ v => v = .int .u64 (n : Int)) (numR k s)) := by
  obtain ⟨c1, c2, c3⟩ := h.cell
  replace h := Box.mk h
  have hkb := Box.mk hk
  have h8b := Box.mk h8
  clear hk h8
  go_enter Try.func93, Try.ntmps93
  go_wp2_with fail
  refine (get_any s k w).mono ?_
  rintro e w1 ⟨rfl, hb1⟩
  have h1 := h.out.below hb1
  have o1 : Oth b w w1 := Oth.of hb1
  clear c1 c2 c3
  by_cases hl : s.length < k
  · rw [getV_short hkb.out h8b.out hl]
    have hR := Box.mk (numR_short hl)
    simp only [val3]
    go_wp2_with fail
    refine (next_err (b := b) (w := w1) (sB []) 30 (by omega)).mono ?_
    rintro e w2 ⟨rfl, o2⟩
    go_wp2
    exact ⟨rfl, RTo.err hR.out (o1.trans o2)⟩
  · rw [getV_well hkb.out h8b.out hl]
    have hR := numR_well hl
    obtain ⟨n, hn⟩ : ∃ n, n = unle (s.take k) := ⟨_, rfl⟩
    obtain ⟨r, hr⟩ : ∃ r, r = s.drop k := ⟨_, rfl⟩
    rw [← hn, ← hr] at hR ⊢
    replace hR := Box.mk hR
    replace hn := Box.mk hn
    replace hr := Box.mk hr
    replace hl := Box.mk hl
    simp only [val3]
    go_wp2_with fail
    refine (next_ok h1 r).mono ?_
    rintro e w2 ⟨rfl, h2, o2⟩
    replace h1 := Box.mk h1
    go_wp2
    go_ret
    exact RTo.mk hR.out rfl h2 (o1.trans o2)

theorem number4_any {b : Nat} {w : World} {s : List UInt8} (h : RD b w s) : Calls Try.prog 93 #[.pointer (some ⟨b, 0, none⟩), .int .i64 4] w (RTo b w (fun (n : Nat) _ v => v = .int .u64 (n : Int)) (numR 4 s)) := number_any 4 (by omega) (by omega) h
theorem number8_any {b : Nat} {w : World} {s : List UInt8} (h : RD b w s) : Calls Try.prog 93 #[.pointer (some ⟨b, 0, none⟩), .int .i64 8] w (RTo b w (fun (n : Nat) _ v => v = .int .u64 (n : Int)) (numR 8 s)) := number_any 8 (by omega) (by omega) h

set_option maxHeartbeats 1000000 in
theorem many_any {b : Nat} {w : World} {s : List UInt8} (h : RD b w s) (hs : s.length ≤ 1000000) :
    Calls Try.prog 95 #[.pointer (some ⟨b, 0, none⟩)] w (RTo b w (fun (n : Nat) _ v => v = .int .i64 (n : Int)) (manyR s)) := by
  obtain ⟨c1, c2, c3⟩ := h.cell
  replace h := Box.mk h
  replace hs := Box.mk hs
  go_enter Try.func95, Try.ntmps95
  go_wp2_with fail
  refine (read_any s w (by have := hs.out; omega)).mono ?_
  rintro e w1 ⟨rfl, hb1⟩
  have h1 := h.out.below hb1
  have o1 : Oth b w w1 := Oth.of hb1
  clear c1 c2 c3
  obtain ⟨n, r, x, hv⟩ : ∃ n r x, readV s = (n, r, x) := ⟨_, _, _, rfl⟩
  by_cases h0 : x = 0
  · subst h0
    by_cases h2 : 40 < n
    · have hR := Box.mk (manyR_many (s := s) (by rw [hv]) (by rw [hv]; exact h2))
      rw [hv]
      have h2' : (40 : Int) < n := by omega
      replace hv := Box.mk hv
      simp only [val3]
      go_wp2_with fail
      refine (next_err (b := b) (w := w1) (sB r) 51 (by omega)).mono ?_
      rintro e w2 ⟨rfl, o2⟩
      go_wp2
      exact ⟨rfl, RTo.err hR.out (o1.trans o2)⟩
    · have hR := manyR_well (s := s) (by rw [hv]) (by rw [hv]; exact h2)
      rw [hv] at hR ⊢
      replace hR := Box.mk hR
      have h2' : ¬ (40 : Int) < n := by omega
      replace hv := Box.mk hv
      simp only [val3]
      go_wp2_with fail
      refine (next_ok h1 r).mono ?_
      rintro e w2 ⟨rfl, h3, o2⟩
      replace h1 := Box.mk h1
      have hn : (IntKind.i64.wrap (n : Int)) = n := IntWalk.i64_in _ (by omega)
      go_wp2
      go_ret
      exact RTo.mk hR.out (by simp; try rfl) h3 (o1.trans o2)
  · have hR := manyR_err (s := s) (by rw [hv]; exact h0)
    rw [hv] at hR ⊢
    replace hR := Box.mk hR
    replace hv := Box.mk hv
    simp only [val3]
    go_wp2_with fail
    refine (next_err (b := b) (w := w1) (sB r) x h0).mono ?_
    rintro e w2 ⟨rfl, o2⟩
    go_wp2
    exact ⟨rfl, RTo.err hR.out (o1.trans o2)⟩

set_option maxHeartbeats 1000000 in
theorem rkey_any {b : Nat} {w : World} {s : List UInt8} (h : RD b w s) (hs : s.length ≤ 1000000) :
    Calls Try.prog 97 #[.pointer (some ⟨b, 0, none⟩)] w (RTo b w (fun k _ v => v = .agg (keyC k).toArray) (keyR s)) := by
  have h0 := h.below ((Below.refl _ _).alloc (Nat.le_refl _) (.cells (keyC zeroKey).toArray 38))
  have hB0 : Below w.heap.size w (w.alloc (.cells (keyC zeroKey).toArray 38)) := (Below.refl _ _).alloc (Nat.le_refl _) _
  have hk0 : (w.alloc (.cells (keyC zeroKey).toArray 38)).heap[w.heap.size]? = some (.cells (keyC zeroKey).toArray 38 (0, 0)) := heap_alloc_new w _
  have hs0 : (w.alloc (.cells (keyC zeroKey).toArray 38)).heap.size = w.heap.size + 1 := by simp
  have hbl := h.lt
  obtain ⟨c1, c2, c3⟩ := h0.cell
  replace h := Box.mk h
  replace hs := Box.mk hs
  go_enter Try.func97, Try.ntmps97
  go_wp2_with fail
  generalize w.alloc (.cells (keyC zeroKey).toArray 38) = w0 at *
  refine (key_any s w0 (by have := hs.out; omega)).mono ?_
  rintro e w1 ⟨rfl, hb1⟩
  have h1 := h0.below hb1
  have B1 := hB0.trans (hb1.mono (by omega))
  have hk1 := keepBlock hb1 hk0
  have s1 := hb1.size
  have hk2 : (w1.alloc (.cells (keyC (keyV s).1).toArray 38)).heap[w.heap.size]? = some (.cells (keyC zeroKey).toArray 38 (0, 0)) := by rw [Below.heap_alloc _ _ _ (by omega)]; exact hk1
  have h2 := h1.below ((Below.refl _ _).alloc (Nat.le_refl _) (.cells (keyC (keyV s).1).toArray 38))
  have B2 : Below w.heap.size w (w1.alloc (.cells (keyC (keyV s).1).toArray 38)) := B1.alloc (by omega) _
  have hn2 : (w1.alloc (.cells (keyC (keyV s).1).toArray 38)).heap[w1.heap.size]? = some (.cells (keyC (keyV s).1).toArray 38 (0, 0)) := heap_alloc_new w1 _
  have hs2 : (w1.alloc (.cells (keyC (keyV s).1).toArray 38)).heap.size = w1.heap.size + 1 := by simp
  clear c1 c2 c3
  replace h0 := Box.mk h0
  replace h1 := Box.mk h1
  replace hk1 := Box.mk hk1
  replace hk0 := Box.mk hk0
  replace B1 := Box.mk B1
  replace hB0 := Box.mk hB0
  replace hb1 := Box.mk hb1
  by_cases hl : 32 ≤ s.length
  · have hV : keyV s = (keyOf s hl, s.drop 32, 0) := by unfold keyV; rw [dif_pos hl]
    have hR := keyR_well hl
    rw [hV] at hk2 h2 B2 hn2 hs2 ⊢
    simp only at hk2 h2 B2 hn2 hs2
    generalize keyOf s hl = k at *
    obtain ⟨r, hr⟩ : ∃ r, r = s.drop 32 := ⟨_, rfl⟩
    rw [← hr] at hR ⊢
    replace hR := Box.mk hR
    replace hr := Box.mk hr
    replace hV := Box.mk trivial
    replace hl := Box.mk hl
    simp only [valK]
    go_wp2_with fail
    generalize w1.alloc (.cells (keyC k).toArray 38) = w2 at *
    refine (next_ok h2 r).mono ?_
    rintro e w3 ⟨rfl, h3, o3⟩
    have B3 : Oth b w w3 := (Oth.of B2).trans o3
    have hn3 := key_row' (o3.keep hn2 (by omega))
    have hk3 := o3.keep hk2 (by omega)
    have hp3 : canPut w3 w.heap.size 0 32 = true := canPut_block hk3 0 32 (by simp [keyC_length])
    have l3 : w1.heap.size < w3.heap.size := by have := o3.size; omega
    have l3' : w.heap.size < w3.heap.size := by omega
    have hrow := rowOf_of_rangeAt (World.rangeAt_setCells_same w3 w.heap.size 0 (keyC k) (by rw [keyC_length]; exact canPut_there.1 hp3)) (keyC_length k)
    have h4 : RD b (w3.setCells w.heap.size 0 (keyC k)) r := ⟨by rw [(below_setCells (B := w.heap.size) (Nat.le_refl _) (keyC k) 0 w3 w3 (Below.refl _ _)).block b (by omega)]; exact h3.heap⟩
    have B4 : Oth b w (w3.setCells w.heap.size 0 (keyC k)) := ⟨B3.all.trans ((below_setCells (B := 0) (Nat.zero_le _) (keyC k) 0 w3 w3 (Below.refl _ _))), fun c hc hn => by rw [(below_setCells (B := w.heap.size) (Nat.le_refl _) (keyC k) 0 w3 w3 (Below.refl _ _)).block c hc]; exact B3.block c hc hn⟩
    replace h2 := Box.mk h2
    replace h3 := Box.mk h3
    replace o3 := Box.mk o3
    replace hk2 := Box.mk hk2
    replace hk3 := Box.mk hk3
    replace hn2 := Box.mk hn2
    replace B2 := Box.mk B2
    replace B3 := Box.mk B3
    go_wp2
    obtain ⟨wf, hwf⟩ : ∃ wf, wf = w3.setCells w.heap.size 0 (keyC k) := ⟨_, rfl⟩
    rw [← hwf] at hrow h4 B4 ⊢
    refine bodyPost_ret (v := .agg (keyC k).toArray) (res1 Try.results97 (res_key (b := w.heap.size) (o := 0) (by simp [go_sem]) hrow)) rfl ?_
    exact RTo.mk hR.out rfl h4 B4
  · have hV : keyV s = (zeroKey, [], 30) := by unfold keyV; rw [dif_neg hl]
    have hR := Box.mk (keyR_short hl)
    rw [hV] at hk2 h2 B2 hn2 hs2 ⊢
    simp only at hk2 h2 B2 hn2 hs2
    replace hV := Box.mk trivial
    replace hl := Box.mk hl
    simp only [valK]
    go_wp2_with fail
    refine (next_err (b := b) (sB []) 30 (by omega)).mono ?_
    rintro e w3 ⟨rfl, o3⟩
    have B3 : Oth b w w3 := (Oth.of B2).trans o3
    replace h2 := Box.mk h2
    replace hk2 := Box.mk hk2
    replace hn2 := Box.mk hn2
    replace B2 := Box.mk B2
    go_wp2
    exact ⟨rfl, RTo.err hR.out B3⟩

end Go.Proofs.Ytahkiabpjfcfdaa
