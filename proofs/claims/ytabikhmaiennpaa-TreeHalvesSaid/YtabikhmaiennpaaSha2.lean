/- Package sha: Words. Rows of words. -/
import Derived.Test.YtabikhmaiennpaaBase
import Derived.Test.YtabikhmaiennpaaSha1
import Derived.Test.YtabikhmaiennpaaCodec2
namespace Go.Proofs.Ytabikhmaiennpaa
open Go.RowKit
set_option linter.unusedVariables false
set_option linter.unusedSimpArgs false
set_option maxRecDepth 100000

/-- The cells of words. -/
@[irreducible] def uC (l : List UInt32) : List Value := l.map fun x => Value.int .u32 (iw x)
@[go_sem] theorem uC_length (l : List UInt32) : (uC l).length = l.length := by unfold uC; simp
theorem uC_get {l : List UInt32} {i : Nat} {x : UInt32} (h : l[i]? = some x) : (uC l)[i]? = some (.int .u32 (iw x)) := by
  unfold uC; rw [List.getElem?_map, h]; rfl
theorem uC_append (a b : List UInt32) : uC (a ++ b) = uC a ++ uC b := by unfold uC; rw [List.map_append]
theorem uC_set (l : List UInt32) (i : Nat) (x : UInt32) : (uC l).set i (.int .u32 (iw x)) = uC (l.set i x) := by
  unfold uC
  rw [List.map_set]
theorem uC_row (l : List UInt32) : isRow l.length (uC l) = true := by
  unfold isRow uC
  simp [Value.oneCell']
/-- A word of a block of words. -/
theorem uC_cell {w : World} {b : Nat} {l : List UInt32} {t : TypeId} {fr : Nat × Nat} (hb : w.heap[b]? = some (.cells (uC l).toArray t fr)) {i : Nat} {x : UInt32} (h : l[i]? = some x) : w.cell? ⟨b, i, none⟩ = some (.int .u32 (iw x)) := by
  rw [cell_of_row w b i _ _ _ hb]
  simpa using uC_get h
theorem heap_setCell_uC {w : World} {b : Nat} {l : List UInt32} {t : TypeId} {fr : Nat × Nat} (hb : w.heap[b]? = some (.cells (uC l).toArray t fr)) (i : Nat) (x : UInt32) : (w.setCell ⟨b, i, none⟩ (.int .u32 (iw x))).heap[b]? = some (.cells (uC (l.set i x)).toArray t fr) := by
  rw [← uC_set]
  simp only [World.setCell, Array.getElem?_modify, if_true, hb, Option.map_some]
  simp
theorem uC_rowOf {w : World} {b : Nat} {l : List UInt32} {t : TypeId} {fr : Nat × Nat} (hb : w.heap[b]? = some (.cells (uC l).toArray t fr)) : rowOf w b 0 l.length = some (uC l) := by
  rw [rowOf_block hb 0 l.length (by simp [uC_length])]
  congr 1; simp
  exact List.take_of_length_le (by rw [uC_length]; exact Nat.le_refl _)

/-! ### make([]uint32, n) -/
def makeUTo (P : Program) (t e : TypeId) (w : World) (u v : Value) : Result Next :=
  match u, v with
  | .int .i64 k, .int .i64 k' => if k = k' ∧ 0 ≤ k ∧ k ≤ 2000000 then .ok (.value (.slice (some ⟨w.heap.size, 0, none⟩) k.toNat k.toNat)) (w.alloc (.cells (uC (List.replicate k.toNat 0)).toArray e)) else slowMakeB P t u v w
  | u, v => slowMakeB P t u v w
@[go_sem] theorem makeUTo_ok (P : Program) (t e : TypeId) (w : World) (k : Int) :
    makeUTo P t e w (.int .i64 k) (.int .i64 k) = if 0 ≤ k ∧ k ≤ 2000000 then .ok (.value (.slice (some ⟨w.heap.size, 0, none⟩) k.toNat k.toNat)) (w.alloc (.cells (uC (List.replicate k.toNat 0)).toArray e)) else slowMakeB P t (.int .i64 k) (.int .i64 k) w := by
  simp only [makeUTo, true_and]
theorem info_u32 : ∃ i, Try.prog.info? 25 = some i ∧ i.size = 1 ∧ i.bytes = 4 ∧ i.zero = some (.int .u32 0) := by
  have h : (Try.prog.info? 25).map (fun i => (i.size, i.bytes, i.zero)) = some (1, 4, some (.int .u32 0)) := by kernel_rfl
  obtain ⟨i, hi, h'⟩ := Option.map_eq_some_iff.1 h
  simp only [Prod.mk.injEq] at h'
  exact ⟨i, hi, h'.1, h'.2.1, h'.2.2⟩
theorem made_u32 (n : Nat) : madeCells (Value.int .u32 0).cells n = (uC (List.replicate n 0)).toArray := by
  unfold uC
  simp only [iw_eq]
  apply Array.ext
  · simp [size_madeCells]
  · intro i h1 h2
    simp [madeCells, Value.cells, Nat.mod_one]
theorem make_u32 (ρ : Operand → Value) (dst : Option Tmp) (x y : Operand) (t' : TypeId) (pos : String) (after : Array Edge) (guard : Option (Nat × Bool)) (w : World) :
    (execOp ρ ⟨dst, .makeSlice 57 x y, t', pos, after, guard⟩).run Try.prog w = makeUTo Try.prog 57 25 w (ρ x) (ρ y) := by
  have hslow : (execOp ρ ⟨dst, .makeSlice 57 x y, t', pos, after, guard⟩).run Try.prog w = slowMakeB Try.prog 57 (ρ x) (ρ y) w := rfl
  rw [hslow]
  unfold makeUTo
  split
  · rename_i k k' hu' hv'
    split
    · rename_i hk
      obtain ⟨rfl, hk0, hk1⟩ := hk
      obtain ⟨i, hi, hs, hb, hz⟩ := info_u32
      rw [hu', hv']
      simp only [slowMakeB, Sem.run_bind, Go.run_make w 57 25 i _ Try.underlying57 hi hz .i64 .i64 k k hk0 (Int.le_refl _) (by rw [hb]; omega) (by omega), hs, Nat.mul_one, made_u32]
      rfl
    · rfl
  · rfl

/-! ### Words -/
/-- How far Words has come: i bytes are in. -/
def midW (s : List UInt8) (i : Nat) : List UInt32 := (List.range (s.length / 4)).map fun t => pw (((s.take i).drop (4 * t)).take 4)
theorem midW_length (s : List UInt8) (i : Nat) : (midW s i).length = s.length / 4 := by unfold midW; simp
theorem midW_zero (s : List UInt8) : midW s 0 = List.replicate (s.length / 4) 0 := by
  unfold midW
  refine List.ext_getElem? fun j => ?_
  rw [List.getElem?_map, List.getElem?_replicate]
  by_cases h : j < s.length / 4
  · rw [List.getElem?_range h, if_pos h]; simp [pw]
  · rw [List.getElem?_eq_none (by simp; omega), if_neg h]; rfl
theorem midW_all (s : List UInt8) : midW s (4 * (s.length / 4)) = wordsL s := by
  unfold midW wordsL
  refine List.map_congr_left fun t ht => ?_
  have : t < s.length / 4 := by simpa using ht
  congr 1
  rw [List.drop_take, List.take_take, Nat.min_eq_left (by omega)]
theorem midW_get {s : List UInt8} {i : Nat} (h : i < 4 * (s.length / 4)) : (midW s i)[i / 4]? = some (pw (((s.take i).drop (4 * (i / 4))).take 4)) := by
  unfold midW
  rw [List.getElem?_map, List.getElem?_range (by omega)]; rfl
theorem pw_snoc (l : List UInt8) (x : UInt8) : pw (l ++ [x]) = (pw l <<< 8) ||| x.toUInt32 := by unfold pw; rw [List.foldl_append]; rfl
theorem midW_set {s : List UInt8} {i : Nat} {x : UInt8} (h : i < 4 * (s.length / 4)) (hx : s[i]? = some x) :
    (midW s i).set (i / 4) ((pw (((s.take i).drop (4 * (i / 4))).take 4) <<< 8) ||| x.toUInt32) = midW s (i + 1) := by
  refine List.ext_getElem? fun j => ?_
  rw [List.getElem?_set]
  by_cases e : i / 4 = j
  · subst e
    rw [if_pos rfl, if_pos (by rw [midW_length]; omega), ← pw_snoc]
    unfold midW
    rw [List.getElem?_map, List.getElem?_range (by omega)]
    simp only [Option.map_some]
    congr 2
    have hl : i < s.length := (List.getElem?_eq_some_iff.1 hx).1
    rw [show s.take (i + 1) = s.take i ++ [x] from by rw [List.take_add_one, hx]; rfl, List.drop_append_of_le_length (by rw [List.length_take]; omega)]
    have h4 : ((s.take i).drop (4 * (i / 4))).length = i % 4 := by rw [List.length_drop, List.length_take]; omega
    rw [List.take_of_length_le (l := (s.take i).drop (4 * (i / 4))) (by rw [h4]; omega), List.take_of_length_le (l := (s.take i).drop (4 * (i / 4)) ++ [x]) (by rw [List.length_append, h4]; simp; omega)]
  · rw [if_neg e]
    unfold midW
    rw [List.getElem?_map, List.getElem?_map]
    by_cases hj : j < s.length / 4
    · rw [List.getElem?_range hj]
      simp only [Option.map_some]
      congr 2
      rw [List.drop_take, List.drop_take, List.take_take, List.take_take]
      by_cases hlt : j < i / 4
      · rw [Nat.min_eq_left (by omega), Nat.min_eq_left (by omega)]
      · have e1 : i - 4 * j = 0 := by omega
        have e2 : i + 1 - 4 * j = 0 := by omega
        rw [e1, e2]
    · rw [List.getElem?_eq_none (by simp; omega)]; rfl

theorem shl8' (x : UInt32) : (iw x * (256 : Int)) % (4294967296 : Int) = iw (x <<< 8) := by
  simp only [iw_eq]
  rw [show ((x.toNat : Int) * (256 : Int)) % (4294967296 : Int) = ((x.toNat * 256 % 4294967296 : Nat) : Int) from by simp, UInt32.toNat_shiftLeft, Nat.shiftLeft_eq]
  rfl
theorem or_word (x : UInt32) (b : UInt8) : bits .or .u32 ((iw x * (256 : Int)) % (4294967296 : Int)) ((b.toNat : Int) % (4294967296 : Int)) = iw ((x <<< 8) ||| b.toUInt32) := by
  have := b.toNat_lt
  rw [shl8', show ((b.toNat : Int) % (4294967296 : Int)) = iw b.toUInt32 from by rw [iw_eq]; simp; omega, u_or]

attribute [local irreducible] Int.lt Int.le
attribute [local go_sem ↓] make_u32

set_option maxHeartbeats 2000000 in
theorem words_any (s : List UInt8) (W : World) (hs : s.length ≤ 1000000) : Calls Try.prog 36 #[.string (sB s)] W
    (fun e w' => e = .returned (.slice (some ⟨W.heap.size, 0, none⟩) (s.length / 4) (s.length / 4)) ∧ w'.heap[W.heap.size]? = some (.cells (uC (wordsL s)).toArray 25 (0, 0)) ∧ Below W.heap.size W w') := by
  obtain ⟨q, hq⟩ : ∃ q, q = s.length / 4 := ⟨_, rfl⟩
  have hq1 : (s.length : Int) / 4 = q := by omega
  have hq2 : (q : Int) ≤ 2000000 := by omega
  have hB1 : Below W.heap.size W (W.alloc (.cells (uC (List.replicate q 0)).toArray 25)) := (Below.refl _ _).alloc (Nat.le_refl _) _
  have hH1 := heap_alloc_new W (.cells (uC (List.replicate q 0)).toArray 25)
  have hz := midW_zero s
  have hall := midW_all s
  rw [← hq] at hz hall
  rw [← hz] at hH1
  rw [← hq]
  have hq4 : 4 * q ≤ s.length := by omega
  replace hq := Box.mk hq
  replace hz := Box.mk hz
  replace hall := Box.mk hall
  go_enter Try.func36, Try.ntmps36
  go_wp2_with fail
  rw [← hz.out]
  rw [← hz.out] at hB1
  generalize W.alloc (.cells (uC (midW s 0)).toArray 25) = w2 at *
  go_loopw [4, 12] (fun _ i wr => Below W.heap.size W wr ∧ ∃ j : Nat, j ≤ 4 * q ∧ i = .int .i64 j ∧ wr.heap[W.heap.size]? = some (.cells (uC (midW s j)).toArray 25 (0, 0))) (fun _ i _ => 4 * q - (intOf i).toNat)
  case atStart => exact ⟨hB1, 0, Nat.zero_le _, rfl, hH1⟩
  case round =>
    obtain ⟨hbr, j, hj, rfl, hH⟩ := hrel
    by_cases hlt : j < 4 * q
    · have hlt' : (j : Int) < 4 * (q : Int) := by omega
      have hjs : j < s.length := by omega
      have hjs' : (j : Int) < (s.length : Int) := by omega
      have hx : s[j]? = some s[j] := List.getElem?_eq_getElem hjs
      have hg := midW_get (s := s) (i := j) (by rw [← hq.out]; exact hlt)
      have hset := midW_set (s := s) (i := j) (by rw [← hq.out]; exact hlt) hx
      have hgb := sB_get hjs
      generalize pw (((s.take j).drop (4 * (j / 4))).take 4) = y at *
      generalize hxx : s[j] = x at *
      obtain ⟨d, hd⟩ : ∃ d : Nat, j / 4 = d := ⟨_, rfl⟩
      rw [hd] at hg hset
      have hd1 : (j : Int) / 4 = d := by omega
      have hd2 : (d : Int) < (q : Int) := by omega
      have hd3 : d < q := by omega
      have c1 := uC_cell hH hg
      have f1 : wr.frozen? ⟨W.heap.size, d, none⟩ = false := frozen_of_row _ _ _ _ _ hH
      have s1 : W.heap.size < wr.heap.size := (Array.getElem?_eq_some_iff.1 hH).1
      have hor := or_word y x
      have hn := heap_setCell_uC hH d ((y <<< 8) ||| x.toUInt32)
      rw [hset] at hn
      generalize (y <<< 8) ||| x.toUInt32 = r at *
      replace hset := Box.mk hset
      replace hn := Box.mk hn
      replace hg := Box.mk hg
      replace hd := Box.mk hd
      replace hx := Box.mk hx
      have hall : ∀ w', SinceB W.heap.size wr w' → W.heap.size < w'.heap.size := fun w' h => by have := h.size; omega
      go_wp2_with fail
      refine hreg_begin (S := SinceB W.heap.size wr) (by kernel_rfl) (SinceB.refl (by omega)).drew (fun hHeld => ?_)
      simp only [List.length_cons, List.length_nil, Nat.zero_add, Nat.reduceAdd, Array.replicate]
      refine hreg_take (i := 0) rfl (by kernel_rfl) (by kernel_rfl) (by kernel_rfl) hreg_panic (by rfl) hHeld ?_
      apply Exists.intro
      refine ⟨fun w' hw' => ?_, ?_⟩
      · have hf := hall w' hw'
        go_simp
        try go_bits
        exact yieldsV_mk rfl
      simp only [Act.put, List.setIfInBounds_toArray, List.set_cons_zero, List.set_cons_succ]
      refine hreg_take (i := 1) rfl (by kernel_rfl) (by kernel_rfl) (by kernel_rfl) hreg_panic (by rfl) hHeld ?_
      apply Exists.intro
      refine ⟨fun w' hw' => ?_, ?_⟩
      · have hf := hall w' hw'
        go_simp
        try go_bits
        exact yieldsV_mk rfl
      simp only [Act.put, List.setIfInBounds_toArray, List.set_cons_zero, List.set_cons_succ]
      refine hreg_take (i := 2) rfl (by kernel_rfl) (by kernel_rfl) (by kernel_rfl) hreg_panic (by rfl) hHeld ?_
      apply Exists.intro
      refine ⟨fun w' hw' => ?_, ?_⟩
      · have hf := hall w' hw'
        go_simp
        try go_bits
        exact yieldsV_mk rfl
      simp only [Act.put, List.setIfInBounds_toArray, List.set_cons_zero, List.set_cons_succ]
      refine hreg_take (i := 3) rfl (by kernel_rfl) (by kernel_rfl) (by kernel_rfl) hreg_panic (by rfl) hHeld ?_
      apply Exists.intro
      refine ⟨fun w' hw' => ?_, ?_⟩
      · have hf := hall w' hw'
        go_simp
        try go_bits
        exact yieldsV_mk rfl
      simp only [Act.put, List.setIfInBounds_toArray, List.set_cons_zero, List.set_cons_succ]
      refine hreg_take (i := 4) rfl (by kernel_rfl) (by kernel_rfl) (by kernel_rfl) hreg_panic (by rfl) hHeld ?_
      apply Exists.intro
      refine ⟨fun w' hw' => ?_, ?_⟩
      · have hf := hall w' hw'
        go_simp
        try go_bits
        exact yieldsV_mk rfl
      simp only [Act.put, List.setIfInBounds_toArray, List.set_cons_zero, List.set_cons_succ]
      refine hreg_take (i := 5) rfl (by kernel_rfl) (by kernel_rfl) (by kernel_rfl) hreg_panic (by rfl) hHeld ?_
      apply Exists.intro
      refine ⟨fun w' hw' => ?_, ?_⟩
      · have hf := hall w' hw'
        go_simp
        try go_bits
        exact yieldsV_mk rfl
      simp only [Act.put, List.setIfInBounds_toArray, List.set_cons_zero, List.set_cons_succ]
      refine hreg_take (i := 6) rfl (by kernel_rfl) (by kernel_rfl) (by kernel_rfl) hreg_panic (by rfl) hHeld ?_
      apply Exists.intro
      refine ⟨fun w' hw' => ?_, ?_⟩
      · have hf := hall w' hw'
        go_simp
        try go_bits
        exact yieldsV_mk rfl
      simp only [Act.put, List.setIfInBounds_toArray, List.set_cons_zero, List.set_cons_succ]
      refine hreg_take (i := 9) rfl (by kernel_rfl) (by kernel_rfl) (by kernel_rfl) hreg_panic (by rfl) hHeld ?_
      apply Exists.intro
      refine ⟨fun w' hw' => ?_, ?_⟩
      · have hf := hall w' hw'
        go_simp
        try go_bits
        exact yieldsV_mk rfl
      simp only [Act.put, List.setIfInBounds_toArray, List.set_cons_zero, List.set_cons_succ]
      refine hreg_take (i := 10) rfl (by kernel_rfl) (by kernel_rfl) (by kernel_rfl) hreg_panic (by rfl) hHeld ?_
      apply Exists.intro
      refine ⟨fun w' hw' => ?_, ?_⟩
      · have hf := hall w' hw'
        go_simp
        try go_bits
        exact yieldsV_mk rfl
      simp only [Act.put, List.setIfInBounds_toArray, List.set_cons_zero, List.set_cons_succ]
      refine hreg_take (i := 11) rfl (by kernel_rfl) (by kernel_rfl) (by kernel_rfl) hreg_panic (by rfl) hHeld ?_
      apply Exists.intro
      refine ⟨fun w' hw' => ?_, ?_⟩
      · have hf := hall w' hw'
        go_simp
        try go_bits
        exact yieldsV_mk rfl
      simp only [Act.put, List.setIfInBounds_toArray, List.set_cons_zero, List.set_cons_succ]
      refine hreg_take (i := 12) rfl (by kernel_rfl) (by kernel_rfl) (by kernel_rfl) hreg_panic (by rfl) hHeld ?_
      apply Exists.intro
      refine ⟨fun w' hw' => ?_, ?_⟩
      · have hf := hall w' hw'
        go_simp
        try go_bits
        exact yieldsV_mk rfl
      simp only [Act.put, List.setIfInBounds_toArray, List.set_cons_zero, List.set_cons_succ]
      refine wpAnyH_ready (rs := [7]) (by kernel_rfl) (by simp) ?_
      refine hreg_event (o := _) rfl (by rfl) (fun K hK => ?_) ?_
      · go_simp
        first
          | skip
        refine hK.out _ _ ?_ (fun hHeld' => ?_)
        · first
            | exact hHeld.next hb
            | exact hHeld
            | exact hHeld.alloc _
            | exact hHeld.setCell (by simp <;> omega) _
            | exact (hHeld.alloc _).alloc _
        replace hHeld := hHeld'
        clear hHeld' hK K
        simp only [Act.put, List.setIfInBounds_toArray, List.set_cons_zero, List.set_cons_succ]
        refine hreg_take (i := 8) rfl (by kernel_rfl) (by kernel_rfl) (by kernel_rfl) hreg_panic (by rfl) hHeld ?_
        apply Exists.intro
        refine ⟨fun w' hw' => ?_, ?_⟩
        · have hf := hall w' hw'
          go_simp
          try go_bits
          exact yieldsV_mk rfl
        simp only [Act.put, List.setIfInBounds_toArray, List.set_cons_zero, List.set_cons_succ]
        refine hreg_take (i := 13) rfl (by kernel_rfl) (by kernel_rfl) (by kernel_rfl) hreg_panic (by rfl) hHeld ?_
        apply Exists.intro
        refine ⟨fun w' hw' => ?_, ?_⟩
        · have hf := hall w' hw'
          go_simp
          try go_bits
          exact yieldsV_mk rfl
        simp only [Act.put, List.setIfInBounds_toArray, List.set_cons_zero, List.set_cons_succ]
        refine hreg_take (i := 14) rfl (by kernel_rfl) (by kernel_rfl) (by kernel_rfl) hreg_panic (by rfl) hHeld ?_
        apply Exists.intro
        refine ⟨fun w' hw' => ?_, ?_⟩
        · have hf := hall w' hw'
          go_simp
          try go_bits
          exact yieldsV_mk rfl
        simp only [Act.put, List.setIfInBounds_toArray, List.set_cons_zero, List.set_cons_succ]
        refine wpAnyH_ready (rs := [15]) (by kernel_rfl) (by simp) ?_
        refine hreg_event (o := _) rfl (by rfl) (fun K hK => ?_) ?_
        · go_simp
          first
            | skip
          refine hK.out _ _ ?_ (fun hHeld' => ?_)
          · first
              | exact hHeld.next hb
              | exact hHeld
              | exact hHeld.alloc _
              | exact hHeld.setCell (by simp <;> omega) _
              | exact (hHeld.alloc _).alloc _
          replace hHeld := hHeld'
          clear hHeld' hK K
          simp only [Act.put, List.setIfInBounds_toArray, List.set_cons_zero, List.set_cons_succ]
          refine wpAnyH_done (by kernel_rfl) ?_ _
          refine NoPanic.normal ?_
          have hbn := Box.mk hHeld.out
          have hsn : W.heap.size < (wr.setCell ⟨W.heap.size, d, none⟩ (.int .u32 (iw r))).drew.heap.size := by simp [World.setCell]; omega
          clear hHeld hall
          generalize wr.setCell ⟨W.heap.size, d, none⟩ (.int .u32 (iw r)) = wn at *
          go_wp2
          go_roundw
          case rel => exact ⟨hbr.trans hbn.out, j + 1, by omega, by go_num, hn.out⟩
          case measure => simp [intOf]; omega
        exact AllReadyH.nil
      exact AllReadyH.nil
    · obtain rfl : j = 4 * q := by omega
      rw [hall.out] at hH
      have hge : ¬ ((4 * q : Nat) : Int) < 4 * (q : Int) := by omega
      replace hH := Box.mk hH
      go_wp2
      go_ret
      exact ⟨rfl, hH.out, hbr⟩

end Go.Proofs.Ytabikhmaiennpaa
