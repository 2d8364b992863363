/- Package block: the steps of Decode. -/
import Derived.Test.YtahkiabpjfcfdaaTxList
import Derived.Test.YtahkiabpjfcfdaaRefRd2
namespace Go.Proofs.Ytahkiabpjfcfdaa
open Go.RowKit
set_option linter.unusedVariables false
set_option linter.unusedSimpArgs false
set_option maxRecDepth 100000

/-- Of what was there only the blocks S, Kb and N may have turned, and what lies from B on. -/
structure DK (S Kb N B : Nat) (w w' : World) : Prop where
  below : Below S w w'
  keep : ∀ b, b < B → b < w.heap.size → b ≠ S → b ≠ Kb → b ≠ N → w'.heap[b]? = w.heap[b]?
section
variable {S Kb N B : Nat} {w w' w'' : World}
theorem DK.size (h : DK S Kb N B w w') : w.heap.size ≤ w'.heap.size := h.below.size
theorem DK.refl (S Kb N B : Nat) (w : World) : DK S Kb N B w w := ⟨Below.refl _ _, fun _ _ _ _ _ _ => rfl⟩
theorem DK.drew (h : DK S Kb N B w w') : DK S Kb N B w w'.drew := ⟨h.below.drew, h.keep⟩
theorem DK.trans (h : DK S Kb N B w w') (h' : DK S Kb N B w' w'') : DK S Kb N B w w'' :=
  ⟨h.below.trans h'.below, fun b h1 h2 h3 h4 h5 => (h'.keep b h1 (by have := h.size; omega) h3 h4 h5).trans (h.keep b h1 h2 h3 h4 h5)⟩
theorem DK.next (h : DK S Kb N B w w') (hb : Below w'.heap.size w' w'') (hS : S ≤ w.heap.size) : DK S Kb N B w w'' :=
  h.trans ⟨hb.mono (by have := h.size; omega), fun b _ h2 _ _ _ => hb.block b h2⟩
theorem DK.of (hb : Below w.heap.size w w') (hS : S ≤ w.heap.size) : DK S Kb N B w w' := (DK.refl _ _ _ _ _).next hb hS
theorem DK.grown (hb : Below B w w') (hS : S ≤ B) : DK S Kb N B w w' := ⟨hb.mono hS, fun b h1 h2 _ _ _ => hb.block b h1⟩
theorem DK.setCell (h : DK S Kb N B w w') (b : Nat) (hb : b = S ∨ b = Kb ∨ b = N) (hl : S ≤ b) (o : Nat) (v : Value) : DK S Kb N B w (w'.setCell ⟨b, o, none⟩ v) :=
  ⟨h.below.setCell (p := ⟨b, o, none⟩) hl v, fun c h1 h2 h3 h4 h5 => (heap_setCell_ne' (by omega) _).trans (h.keep c h1 h2 h3 h4 h5)⟩
theorem DK.setCells (h : DK S Kb N B w w') (b : Nat) (hb : b = S ∨ b = Kb ∨ b = N) (hl : S ≤ b) (o : Nat) (cs : List Value) : DK S Kb N B w (w'.setCells b o cs) :=
  ⟨below_setCells hl _ _ _ _ h.below, fun c h1 h2 h3 h4 h5 => (heap_setCells_ne (by omega) _ _).trans (h.keep c h1 h2 h3 h4 h5)⟩
theorem DK.block (h : DK S Kb N B w w') {b : Nat} {x : Obj} (hx : w.heap[b]? = some x) (h1 : b < B) (h3 : b ≠ S) (h4 : b ≠ Kb) (h5 : b ≠ N) : w'.heap[b]? = some x := (h.keep b h1 (Array.getElem?_eq_some_iff.1 hx).1 h3 h4 h5).trans hx
end

/-- What Decode holds: the bytes that are left, the block, the number. -/
structure DV (S Kb N : Nat) (w : World) (s : List UInt8) (v : BlkV) (n : Nat) : Prop where
  ord : S < Kb ∧ Kb < N
  str : w.heap[S]? = some (.cells #[.string (sB s)] 9 (0, 0))
  blk : w.heap[Kb]? = some (.cells (blkC v).toArray 50 (0, 0))
  num : w.heap[N]? = some (.cells #[.int .u64 n] 23 (0, 0))
section
variable {S Kb N : Nat} {w w' : World} {s : List UInt8} {v v' : BlkV} {n : Nat}
theorem DV.below (h : DV S Kb N w s v n) (hb : Below w.heap.size w w') : DV S Kb N w' s v n := ⟨h.ord, keepBlock hb h.str, keepBlock hb h.blk, keepBlock hb h.num⟩
theorem DV.setS (h : DV S Kb N w s v n) (r : List UInt8) : DV S Kb N (w.setCell ⟨S, 0, none⟩ (.string (sB r))) r v n :=
  ⟨h.ord, heap_setCell_one h.str _, (heap_setCell_ne' (by have := h.ord; omega) _).trans h.blk, (heap_setCell_ne' (by have := h.ord; omega) _).trans h.num⟩
theorem DV.setN (h : DV S Kb N w s v n) (m : Nat) : DV S Kb N (w.setCell ⟨N, 0, none⟩ (.int .u64 m)) s v m :=
  ⟨h.ord, (heap_setCell_ne' (by have := h.ord; omega) _).trans h.str, (heap_setCell_ne' (by have := h.ord; omega) _).trans h.blk, heap_setCell_one h.num _⟩
theorem DV.setK (h : DV S Kb N w s v n) {i : Nat} {u : Value} (hu : (blkC v).set i u = blkC v') : DV S Kb N (w.setCell ⟨Kb, i, none⟩ u) s v' n :=
  ⟨h.ord, (heap_setCell_ne' (by have := h.ord; omega) _).trans h.str, by rw [← hu]; exact heap_setCell_blkC h.blk i u, (heap_setCell_ne' (by have := h.ord; omega) _).trans h.num⟩
theorem DV.prev (h : DV S Kb N w s v n) (k : Key) : DV S Kb N (w.setCells Kb 0 (keyC k)) s { v with prev := k } n :=
  ⟨h.ord, (heap_setCells_ne (by have := h.ord; omega) _ _).trans h.str, heap_setCells_prev h.blk k, (heap_setCells_ne (by have := h.ord; omega) _ _).trans h.num⟩
theorem DV.root (h : DV S Kb N w s v n) (k : Key) : DV S Kb N (w.setCells Kb 32 (keyC k)) s { v with root := k } n :=
  ⟨h.ord, (heap_setCells_ne (by have := h.ord; omega) _ _).trans h.str, heap_setCells_root h.blk k, (heap_setCells_ne (by have := h.ord; omega) _ _).trans h.num⟩
theorem DV.cells (h : DV S Kb N w s v n) : w.cell? ⟨S, 0, none⟩ = some (.string (sB s)) ∧ w.frozen? ⟨S, 0, none⟩ = false ∧ S < w.heap.size ∧ w.cell? ⟨N, 0, none⟩ = some (.int .u64 n) ∧ w.frozen? ⟨N, 0, none⟩ = false ∧ N < w.heap.size ∧ Kb < w.heap.size :=
  ⟨by rw [cell_of_row w S 0 _ _ _ h.str]; rfl, frozen_of_row w S 0 _ _ h.str, (Array.getElem?_eq_some_iff.1 h.str).1, by rw [cell_of_row w N 0 _ _ _ h.num]; rfl, frozen_of_row w N 0 _ _ h.num, (Array.getElem?_eq_some_iff.1 h.num).1, (Array.getElem?_eq_some_iff.1 h.blk).1⟩
theorem DV.frozen (h : DV S Kb N w s v n) (i : Nat) : w.frozen? ⟨Kb, i, none⟩ = false := frozen_of_row w Kb i _ _ h.blk
theorem DV.put (h : DV S Kb N w s v n) (o : Nat) (ho : o + 32 ≤ 66) : canPut w Kb o 32 = true := canPut_block h.blk o 32 (by simpa [blkC_length] using ho)
end

attribute [local irreducible] Int.lt Int.le
attribute [local go_sem ↓] load_key store_key alloc_key build0_key eq_key load_tx store_tx alloc_tx build0_tx load_blk store_blk alloc_blk build0_blk append_tx one_tx
attribute [local go_sem] rowOf_drew rowOf_alloc_old rowOf_alloc_new canPut_drew canPut_alloc_old canPut_alloc_new setCells_alloc_new

set_option maxHeartbeats 2000000 in
theorem dkey_any {S Kb N B T off : Nat} {w : World} {s : List UInt8} {v v' : BlkV} {n : Nat} (h : DV S Kb N w s v n) (hNB : N < B) (hT : w.heap[T]? = some (.cells #[.pointer (some ⟨Kb, off, none⟩)] 84 (0, 0)))
    (hTS : T ≠ S) (hTK : T ≠ Kb) (hTN : T ≠ N) (hTB : T < B) (hs : s.length ≤ 1000000) {k : Key} {r : List UInt8} {x : Int} (hV : keyV s = (k, r, x)) (hoff : off + 32 ≤ 66)
    (hput : ∀ (w : World) (s : List UInt8), DV S Kb N w s v n → DV S Kb N (w.setCells Kb off (keyC k)) s v' n) :
    Calls Try.prog 53 #[.pointer (some ⟨S, 0, none⟩), .pointer (some ⟨T, 0, none⟩)] w (fun e w' => e = .returned (.int .i64 x) ∧ DV S Kb N w' r v' n ∧ DK S Kb N B w w') := by
  have hord := h.ord
  have hcall : ∀ w, Calls Try.prog 54 #[.string (sB s)] w (Gives (.tuple #[.agg (keyC k).toArray, .string (sB r), .int .i64 x]) w) := fun w => by
    have := key_any s w (by omega)
    rw [hV] at this
    exact this
  have h1 := h.below (Below.refl _ _).drew
  obtain ⟨c1, c2, c3, c4, c5, c6, c7⟩ := h1.cells
  have d1 : w.heap.size = w.drew.heap.size := rfl
  clear c2 c4 c5
  have hSw : S ≤ w.heap.size := Nat.le_of_lt c3
  have hall : ∀ w', DK S Kb N B w w' → (w'.cell? ⟨T, 0, none⟩ = some (.pointer (some ⟨Kb, off, none⟩)) ∧ T < w'.heap.size ∧ Kb < w'.heap.size ∧ Kb + 0 < w'.heap.size) := fun w' hd => by
    have := hd.block hT hTB hTS hTK hTN
    exact ⟨by rw [cell_of_row w' T 0 _ _ _ this]; rfl, (Array.getElem?_eq_some_iff.1 this).1, Nat.lt_of_lt_of_le c7 hd.size, Nat.lt_of_lt_of_le c7 hd.size⟩
  replace hs := Box.mk hs
  replace hV := Box.mk hV
  replace h := Box.mk h
  replace hT := Box.mk hT
  replace hord := Box.mk hord
  replace hput := Box.mk hput
  replace hoff := Box.mk hoff
  replace hcall := Box.mk hcall
  go_enter Try.func53, Try.ntmps53
  go_wp2_with fail
  refine hreg_begin (S := DK S Kb N B w) (by kernel_rfl) (DK.refl _ _ _ _ _).drew (fun hHeld => ?_)
  simp only [List.length_cons, List.length_nil, Nat.zero_add, Nat.reduceAdd, Array.replicate]
  refine hreg_take (i := 0) rfl (by kernel_rfl) (by kernel_rfl) (by kernel_rfl) hreg_panic (by rfl) hHeld ?_
  apply Exists.intro
  refine ⟨fun w' hw' => ?_, ?_⟩
  · have hf := hall w' hw'
    go_simp
    try go_bits
    exact yieldsV_mk rfl
  simp only [Act.put, List.setIfInBounds_toArray, List.set_cons_zero, List.set_cons_succ]
  refine wpAnyH_ready (rs := [1]) (by kernel_rfl) (by simp) ?_
  refine hreg_event (o := _) rfl (by rfl) (fun K hK => ?_) ?_
  · go_simp
    first
      | skip
    refine hK.out _ _ ?_ (fun hHeld' => ?_)
    · first
        | exact hHeld.setCells Kb (by omega) (by have := hord.out; omega) _ _
        | exact hHeld.setCell S (by omega) (Nat.le_refl _) _ _
        | exact hHeld.next hb
        | exact hHeld
        | exact hHeld.alloc _
        | exact hHeld.setCell (by simp <;> omega) _
        | exact (hHeld.alloc _).alloc _
    replace hHeld := hHeld'
    clear hHeld' hK K
    simp only [Act.put, List.setIfInBounds_toArray, List.set_cons_zero, List.set_cons_succ]
    refine wpAnyH_ready (rs := [2]) (by kernel_rfl) (by simp) ?_
    refine hreg_event (o := _) rfl (by rfl) (fun K hK => ?_) ?_
    · go_simp
      first
        | (go_at_call 54; refine (hcall.out _).mono ?_; rintro e wn ⟨rfl, hb⟩; have V1 := h1.below hb; have V2 := hput.out _ _ V1; have V3 := V1.setS r; have F1 := V2.setS r; have F2 := hput.out _ _ V3; have p1 := V1.put off hoff.out; have p2 := V3.put off hoff.out; obtain ⟨_, f1, g1, _, _, _, m1⟩ := V1.cells; obtain ⟨_, f2, g2, _, _, _, m2⟩ := V2.cells; obtain ⟨_, f3, g3, _, _, _, m3⟩ := V3.cells; replace V1 := Box.mk V1; replace V2 := Box.mk V2; replace V3 := Box.mk V3; replace F1 := Box.mk F1; replace F2 := Box.mk F2)
        | skip
      refine hK.out _ _ ?_ (fun hHeld' => ?_)
      · first
          | exact hHeld.next hb hSw
          | exact hHeld.setCells Kb (by omega) (by have := hord.out; omega) _ _
          | exact hHeld.setCell S (by omega) (Nat.le_refl _) _ _
          | exact hHeld.next hb
          | exact hHeld
          | exact hHeld.alloc _
          | exact hHeld.setCell (by simp <;> omega) _
          | exact (hHeld.alloc _).alloc _
      replace hHeld := hHeld'
      clear hHeld' hK K
      simp only [Act.put, List.setIfInBounds_toArray, List.set_cons_zero, List.set_cons_succ]
      refine hreg_take (i := 3) rfl (by kernel_rfl) (by kernel_rfl) (by kernel_rfl) hreg_panic (by rfl) hHeld ?_
      apply Exists.intro
      refine ⟨fun w' hw' => ?_, ?_⟩
      · have hf := hall w' hw'
        go_simp
        try go_bits
        exact yieldsV_mk rfl
      simp only [Act.put, List.setIfInBounds_toArray, List.set_cons_zero, List.set_cons_succ]
      refine hreg_take (i := 4) rfl (by kernel_rfl) (by kernel_rfl) (by kernel_rfl) hreg_panic (by rfl) hHeld ?_
      apply Exists.intro
      refine ⟨fun w' hw' => ?_, ?_⟩
      · have hf := hall w' hw'
        go_simp
        try go_bits
        exact yieldsV_mk rfl
      simp only [Act.put, List.setIfInBounds_toArray, List.set_cons_zero, List.set_cons_succ]
      refine hreg_take (i := 5) rfl (by kernel_rfl) (by kernel_rfl) (by kernel_rfl) hreg_panic (by rfl) hHeld ?_
      apply Exists.intro
      refine ⟨fun w' hw' => ?_, ?_⟩
      · have hf := hall w' hw'
        go_simp
        try go_bits
        exact yieldsV_mk rfl
      simp only [Act.put, List.setIfInBounds_toArray, List.set_cons_zero, List.set_cons_succ]
      refine hreg_take (i := 6) rfl (by kernel_rfl) (by kernel_rfl) (by kernel_rfl) hreg_panic (by rfl) hHeld ?_
      apply Exists.intro
      refine ⟨fun w' hw' => ?_, ?_⟩
      · have hf := hall w' hw'
        go_simp
        try go_bits
        exact yieldsV_mk rfl
      simp only [Act.put, List.setIfInBounds_toArray, List.set_cons_zero, List.set_cons_succ]
      refine hreg_take (i := 7) rfl (by kernel_rfl) (by kernel_rfl) (by kernel_rfl) hreg_panic (by rfl) hHeld ?_
      apply Exists.intro
      refine ⟨fun w' hw' => ?_, ?_⟩
      · have hf := hall w' hw'
        go_simp
        try go_bits
        exact yieldsV_mk rfl
      simp only [Act.put, List.setIfInBounds_toArray, List.set_cons_zero, List.set_cons_succ]
      refine wpAnyH_ready (rs := [8]) (by kernel_rfl) (by simp) ?_
      refine hreg_event (o := _) rfl (by rfl) (fun K hK => ?_) ?_
      · go_simp
        first
          | skip
        refine hK.out _ _ ?_ (fun hHeld' => ?_)
        · first
            | exact hHeld.setCells Kb (by omega) (by have := hord.out; omega) _ _
            | exact hHeld.setCell S (by omega) (Nat.le_refl _) _ _
            | exact hHeld.next hb
            | exact hHeld
            | exact hHeld.alloc _
            | exact hHeld.setCell (by simp <;> omega) _
            | exact (hHeld.alloc _).alloc _
        replace hHeld := hHeld'
        clear hHeld' hK K
        simp only [Act.put, List.setIfInBounds_toArray, List.set_cons_zero, List.set_cons_succ]
        refine wpAnyH_ready (rs := [9]) (by kernel_rfl) (by simp) ?_
        refine hreg_event (o := _) rfl (by rfl) (fun K hK => ?_) ?_
        · go_simp
          first
            | skip
          refine hK.out _ _ ?_ (fun hHeld' => ?_)
          · first
              | exact hHeld.setCells Kb (by omega) (by have := hord.out; omega) _ _
              | exact hHeld.setCell S (by omega) (Nat.le_refl _) _ _
              | exact hHeld.next hb
              | exact hHeld
              | exact hHeld.alloc _
              | exact hHeld.setCell (by simp <;> omega) _
              | exact (hHeld.alloc _).alloc _
          replace hHeld := hHeld'
          clear hHeld' hK K
          simp only [Act.put, List.setIfInBounds_toArray, List.set_cons_zero, List.set_cons_succ]
          refine hreg_take (i := 10) rfl (by kernel_rfl) (by kernel_rfl) (by kernel_rfl) hreg_panic (by rfl) hHeld ?_
          apply Exists.intro
          refine ⟨fun w' hw' => ?_, ?_⟩
          · have hf := hall w' hw'
            go_simp
            try go_bits
            exact yieldsV_mk rfl
          simp only [Act.put, List.setIfInBounds_toArray, List.set_cons_zero, List.set_cons_succ]
          refine wpAnyH_done (by kernel_rfl) ?_ _
          refine NoPanic.normal ?_
          have hH := Box.mk hHeld
          clear hHeld hall
          go_wp2
          go_ret
          exact ⟨rfl, F1.out, hH.out⟩
        exact AllReadyH.nil
      exact AllReadyH.nil
    exact AllReadyH.nil
  exact AllReadyH.nil

set_option maxHeartbeats 2000000 in
theorem dnonce_any {S Kb N B : Nat} {w : World} {s : List UInt8} {v : BlkV} {n : Nat} (h : DV S Kb N w s v n) (hNB : N < B) {m : Nat} {r : List UInt8} {x : Int} (hV : getV s 4 = (m, r, x)) (hm : m < 4294967296) :
    Calls Try.prog 55 #[.pointer (some ⟨S, 0, none⟩), .pointer (some ⟨N, 0, none⟩), .pointer (some ⟨Kb, 0, none⟩)] w (fun e w' => e = .returned (.int .i64 x) ∧ DV S Kb N w' r { v with nonce := (m : Int) } m ∧ DK S Kb N B w w') := by
  obtain ⟨o1, o2⟩ := h.ord
  have hcall := get_any s 4 w
  rw [hV] at hcall
  obtain ⟨c1, c2, c3, c4, c5, c6, c7⟩ := h.cells
  have hSw : S ≤ w.heap.size := Nat.le_of_lt c3
  have hm4 : (m : Int) % 4294967296 = m := by omega
  simp only [val3] at hcall
  clear c2 c4 c5
  replace hV := Box.mk hV
  replace hm := Box.mk hm
  replace hcall := Box.mk hcall
  replace h := Box.mk h
  replace o1 := Box.mk o1
  replace o2 := Box.mk o2
  go_enter Try.func55, Try.ntmps55
  go_wp2_with fail
  refine hcall.out.mono ?_
  rintro e w1 ⟨rfl, hb⟩
  have V1 := h.out.below hb
  have V2 := V1.setN m
  have V3 := V2.setS r
  have V4 := V3.setK (blkC_set64 v (m : Int))
  have k1 : DK S Kb N B w w1 := DK.of hb hSw
  have k4 := Box.mk (((k1.setCell N (by omega) (by have := o1.out; have := o2.out; omega) 0 (.int .u64 m)).setCell S (by omega) (Nat.le_refl _) 0 (.string (sB r))).setCell Kb (by omega) (by have := o1.out; omega) 64 (.int .u32 (m : Int)))
  obtain ⟨_, _, _, _, f1, g1, _⟩ := V1.cells
  obtain ⟨_, f2, g2, _, _, _, _⟩ := V2.cells
  obtain ⟨_, _, _, c4, _, g4, g5⟩ := V3.cells
  have f3 := V3.frozen 64
  have f4 := (blk_all V3.blk).2.2.2.2.1
  replace V1 := Box.mk V1
  replace V2 := Box.mk V2
  replace V3 := Box.mk V3
  replace V4 := Box.mk V4
  replace k1 := Box.mk k1
  clear c1 c3 c6 c7 hSw
  go_wp2
  go_ret
  exact ⟨rfl, V4.out, k4.out⟩

/-- What the fourth step comes to. -/
def cmpX (m : Nat) (x : Int) : Int := if x = 0 then (if m = 0 then 110 else if 30 < m then 51 else 0) else x
set_option maxHeartbeats 2000000 in
theorem dmany_any {S Kb N B : Nat} {w : World} {s : List UInt8} {v : BlkV} {n : Nat} (h : DV S Kb N w s v n) (hNB : N < B) (hs : s.length ≤ 1000000) {m : Nat} {r : List UInt8} {x : Int} (hV : readV s = (m, r, x)) :
    Calls Try.prog 57 #[.pointer (some ⟨S, 0, none⟩), .pointer (some ⟨N, 0, none⟩)] w (fun e w' => e = .returned (.int .i64 (cmpX m x)) ∧ DV S Kb N w' r v m ∧ DK S Kb N B w w') := by
  obtain ⟨o1, o2⟩ := h.ord
  have hcall := read_any s w (by omega)
  rw [hV] at hcall
  obtain ⟨c1, c2, c3, c4, c5, c6, c7⟩ := h.cells
  have hSw : S ≤ w.heap.size := Nat.le_of_lt c3
  simp only [val3] at hcall
  clear c2 c4 c5
  replace hV := Box.mk hV
  replace hs := Box.mk hs
  replace hcall := Box.mk hcall
  replace h := Box.mk h
  replace o1 := Box.mk o1
  replace o2 := Box.mk o2
  go_enter Try.func57, Try.ntmps57
  go_wp2_with fail
  refine hcall.out.mono ?_
  rintro e w1 ⟨rfl, hb⟩
  have V1 := h.out.below hb
  have V2 := V1.setN m
  have V3 := V2.setS r
  have k1 : DK S Kb N B w w1 := DK.of hb hSw
  have k3 := Box.mk ((k1.setCell N (by omega) (by have := o1.out; have := o2.out; omega) 0 (.int .u64 m)).setCell S (by omega) (Nat.le_refl _) 0 (.string (sB r)))
  obtain ⟨_, _, _, _, f1, g1, _⟩ := V1.cells
  obtain ⟨_, f2, g2, _, _, _, _⟩ := V2.cells
  obtain ⟨_, _, _, c4, _, g4, g5⟩ := V3.cells
  replace V1 := Box.mk V1
  replace V2 := Box.mk V2
  replace V3 := Box.mk V3
  replace k1 := Box.mk k1
  clear c1 c3 c6 c7 hSw
  by_cases hx : x = 0
  · by_cases h0 : m = 0
    · have hX : cmpX m x = 110 := by unfold cmpX; rw [if_pos hx, if_pos h0]
      subst hx
      have h0' : ((m : Int) == 0) = true := by simpa using h0
      replace h0 := Box.mk h0
      replace hX := Box.mk hX
      go_wp2_with fail
      go_ret
      exact ⟨by rw [hX.out]; rfl, V3.out, k3.out⟩
    · by_cases h3 : 30 < m
      · have hX : cmpX m x = 51 := by unfold cmpX; rw [if_pos hx, if_neg h0, if_pos h3]
        subst hx
        have h0' : ((m : Int) == 0) = false := by simpa using h0
        have h3' : (30 : Int) < m := by omega
        replace hX := Box.mk hX
        go_wp2_with fail
        go_ret
        exact ⟨by rw [hX.out]; rfl, V3.out, k3.out⟩
      · have hX : cmpX m x = 0 := by unfold cmpX; rw [if_pos hx, if_neg h0, if_neg h3]
        subst hx
        have h0' : ((m : Int) == 0) = false := by simpa using h0
        have h3' : ¬ (30 : Int) < m := by omega
        replace hX := Box.mk hX
        go_wp2_with fail
        go_ret
        exact ⟨by rw [hX.out]; rfl, V3.out, k3.out⟩
  · have hX : cmpX m x = x := by unfold cmpX; rw [if_neg hx]
    have hx' : (x != 0) = true := by simpa using hx
    replace hX := Box.mk hX
    go_wp2_with fail
    go_ret
    exact ⟨by rw [hX.out]; rfl, V3.out, k3.out⟩
end Go.Proofs.Ytahkiabpjfcfdaa
