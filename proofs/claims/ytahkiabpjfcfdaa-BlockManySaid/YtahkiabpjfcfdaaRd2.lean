/- Package tx: the readers of a point and of an out. -/
import Derived.Test.YtahkiabpjfcfdaaRd1
import Derived.Test.YtahkiabpjfcfdaaBase
namespace Go.Proofs.Ytahkiabpjfcfdaa
open Go.RowKit
set_option linter.unusedVariables false
set_option linter.unusedSimpArgs false
set_option maxRecDepth 100000

/-- Of what was there only the blocks p and q may have turned. -/
structure Oth2 (p q : Nat) (W w : World) : Prop where
  all : Below 0 W w
  block : ∀ b, b < W.heap.size → b ≠ p → b ≠ q → w.heap[b]? = W.heap[b]?
theorem Oth2.size {p q : Nat} {W w : World} (h : Oth2 p q W w) : W.heap.size ≤ w.heap.size := h.all.size
theorem Oth2.refl (p q : Nat) (W : World) : Oth2 p q W W := ⟨Below.refl _ _, fun _ _ _ _ => rfl⟩
theorem Oth2.drew {p q : Nat} {W w : World} (h : Oth2 p q W w) : Oth2 p q W w.drew := ⟨h.all.drew, h.block⟩
theorem Oth2.trans {p q : Nat} {W w w' : World} (h : Oth2 p q W w) (h' : Oth2 p q w w') : Oth2 p q W w' :=
  ⟨h.all.trans h'.all, fun b hb hn hm => (h'.block b (by have := h.size; omega) hn hm).trans (h.block b hb hn hm)⟩
theorem Oth2.of {p q : Nat} {W w : World} (h : Oth p W w) : Oth2 p q W w := ⟨h.all, fun b hb hn _ => h.block b hb hn⟩
theorem Oth2.setCells {p q : Nat} {W w : World} (h : Oth2 p q W w) (o : Nat) (cs : List Value) : Oth2 p q W (w.setCells q o cs) := by
  have hz : ∀ {cs : List Value} {o : Nat} {w : World} {b : Nat}, b ≠ q → (w.setCells q o cs).heap[b]? = w.heap[b]? := by
    intro cs
    induction cs with
    | nil => intro o w b _; rfl
    | cons v l ih => intro o w b hb; rw [World.setCells, ih hb]; exact Below.heap_setCell _ _ _ _ hb
  exact ⟨h.all.trans (below_setCells (B := 0) (Nat.zero_le _) cs o w w (Below.refl _ _)), fun b hb hn hm => (hz hm).trans (h.block b hb hn hm)⟩
/-- What block q was is the call's own. -/
theorem Oth2.oth {p q : Nat} {W w w' : World} (h : Oth2 p q w w') (hW : Oth p W w) (hq : W.heap.size ≤ q) : Oth p W w' :=
  ⟨hW.all.trans h.all, fun b hb hn => (h.block b (by have := hW.size; omega) hn (by omega)).trans (hW.block b hb hn)⟩
theorem Oth2.keep {p q : Nat} {w w' : World} (h : Oth2 p q w w') {b : Nat} {x : Obj} (hx : w.heap[b]? = some x) (hn : b ≠ p) (hm : b ≠ q) : w'.heap[b]? = some x := by
  rw [h.block b (Array.getElem?_eq_some_iff.1 hx).1 hn hm]; exact hx
/-- The variable that holds the reader. -/
def PB (pb b : Nat) (w : World) : Prop := w.heap[pb]? = some (.cells #[.pointer (some ⟨b, 0, none⟩)] 121 (0, 0)) ∧ pb ≠ b
theorem PB.cell {pb b : Nat} {w : World} (h : PB pb b w) : w.cell? ⟨pb, 0, none⟩ = some (.pointer (some ⟨b, 0, none⟩)) ∧ pb < w.heap.size :=
  ⟨by rw [cell_of_row w pb 0 _ _ _ h.1]; rfl, (Array.getElem?_eq_some_iff.1 h.1).1⟩
theorem PB.below {pb b : Nat} {w w' : World} (h : PB pb b w) (hb : Below w.heap.size w w') : PB pb b w' := ⟨keepBlock hb h.1, h.2⟩
theorem PB.oth {pb b : Nat} {w w' : World} (h : PB pb b w) (ho : Oth b w w') : PB pb b w' := ⟨ho.keep h.1 h.2, h.2⟩

theorem list32' (l : List Value) (h : l.length = 32) : ∃ b0 b1 b2 b3 b4 b5 b6 b7 b8 b9 b10 b11 b12 b13 b14 b15 b16 b17 b18 b19 b20 b21 b22 b23 b24 b25 b26 b27 b28 b29 b30 b31, l = [b0, b1, b2, b3, b4, b5, b6, b7, b8, b9, b10, b11, b12, b13, b14, b15, b16, b17, b18, b19, b20, b21, b22, b23, b24, b25, b26, b27, b28, b29, b30, b31] := by
  match l, h with
  | [b0, b1, b2, b3, b4, b5, b6, b7, b8, b9, b10, b11, b12, b13, b14, b15, b16, b17, b18, b19, b20, b21, b22, b23, b24, b25, b26, b27, b28, b29, b30, b31], _ => exact ⟨b0, b1, b2, b3, b4, b5, b6, b7, b8, b9, b10, b11, b12, b13, b14, b15, b16, b17, b18, b19, b20, b21, b22, b23, b24, b25, b26, b27, b28, b29, b30, b31, rfl⟩
def buildPtTo (P : Program) (w : World) (u v : Value) : Result Next := (do pure (.value (← Instr.build 59 #[(0, u), (1, v)])) : Sem Next).run P w
theorem build_pt (ρ : Operand → Value) (dst : Option Tmp) (x y : Operand) (t : TypeId) (pos : String) (after : Array Edge) (guard : Option (Nat × Bool)) (w : World) :
    (execOp ρ ⟨dst, .build 59 #[(0, x), (1, y)], t, pos, after, guard⟩).run Try.prog w = buildPtTo Try.prog w (ρ x) (ρ y) := by simp [execOp, buildPtTo]
theorem run_build_pt (u : Key) (v : Int) (w : World) : (Instr.build 59 #[(0, Value.agg (keyC u).toArray), (1, Value.int .u32 v)]).run Try.prog w = .ok (.agg (pointC ⟨u, v⟩).toArray) w := by
  obtain ⟨b0, b1, b2, b3, b4, b5, b6, b7, b8, b9, b10, b11, b12, b13, b14, b15, b16, b17, b18, b19, b20, b21, b22, b23, b24, b25, b26, b27, b28, b29, b30, b31, h⟩ := list32' (keyC u) (keyC_length u)
  unfold pointC
  show (Instr.build 59 #[(0, Value.agg (keyC u).toArray), (1, Value.int .u32 v)]).run Try.prog w = .ok (Value.agg (keyC u ++ [Value.int .u32 v]).toArray) w
  rw [h]
  kernel_rfl
@[go_sem] theorem buildPtTo_lit (u : Key) (v : Int) (w : World) : buildPtTo Try.prog w (Value.agg (keyC u).toArray) (Value.int .u32 v) = .ok (.value (.agg (pointC ⟨u, v⟩).toArray)) w := by
  unfold buildPtTo
  rw [Sem.run_bind, run_build_pt]
  rfl
def buildOutTo (P : Program) (w : World) (u v : Value) : Result Next := (do pure (.value (← Instr.build 101 #[(0, u), (1, v)])) : Sem Next).run P w
theorem build_out (ρ : Operand → Value) (dst : Option Tmp) (x y : Operand) (t : TypeId) (pos : String) (after : Array Edge) (guard : Option (Nat × Bool)) (w : World) :
    (execOp ρ ⟨dst, .build 101 #[(0, x), (1, y)], t, pos, after, guard⟩).run Try.prog w = buildOutTo Try.prog w (ρ x) (ρ y) := by simp [execOp, buildOutTo]
theorem run_build_out (u : Key) (v : Int) (w : World) : (Instr.build 101 #[(0, Value.int .i64 v), (1, Value.agg (keyC u).toArray)]).run Try.prog w = .ok (.agg (outC ⟨v, u⟩).toArray) w := by
  obtain ⟨b0, b1, b2, b3, b4, b5, b6, b7, b8, b9, b10, b11, b12, b13, b14, b15, b16, b17, b18, b19, b20, b21, b22, b23, b24, b25, b26, b27, b28, b29, b30, b31, h⟩ := list32' (keyC u) (keyC_length u)
  unfold outC
  show (Instr.build 101 #[(0, Value.int .i64 v), (1, Value.agg (keyC u).toArray)]).run Try.prog w = .ok (Value.agg (Value.int .i64 v :: keyC u).toArray) w
  rw [h]
  kernel_rfl
@[go_sem] theorem buildOutTo_lit (u : Key) (v : Int) (w : World) : buildOutTo Try.prog w (Value.int .i64 v) (Value.agg (keyC u).toArray) = .ok (.value (.agg (outC ⟨v, u⟩).toArray)) w := by
  unfold buildOutTo
  rw [Sem.run_bind, run_build_out]
  rfl
theorem res_point {tmps : Array Value} {a : Nat} {w : World} {b o : Nat} {cs : List Value} (ht : tmps.getD a undef = .pointer (some ⟨b, o, none⟩)) (h : rowOf w b o 33 = some cs) :
    (oneRes tmps (.cell a 59)).run Try.prog w = .ok (.agg cs.toArray) w := res_cell Try.underlying59 rfl (by kernel_rfl) ht h
theorem res_out {tmps : Array Value} {a : Nat} {w : World} {b o : Nat} {cs : List Value} (ht : tmps.getD a undef = .pointer (some ⟨b, o, none⟩)) (h : rowOf w b o 33 = some cs) :
    (oneRes tmps (.cell a 101)).run Try.prog w = .ok (.agg cs.toArray) w := res_cell Try.underlying101 rfl (by kernel_rfl) ht h

attribute [local irreducible] Int.lt Int.le
attribute [local go_sem ↓] load_key store_key alloc_key build0_key eq_key load_point store_point alloc_point load_out store_out alloc_out load_tx store_tx alloc_tx build_pt build_out
attribute [local go_sem] rowOf_drew rowOf_alloc_old rowOf_alloc_new canPut_drew canPut_alloc_old canPut_alloc_new setCells_alloc_new

set_option maxHeartbeats 2000000 in
theorem rpoint_any {pb b : Nat} {w : World} {s : List UInt8} (h : RD b w s) (hp : PB pb b w) (hs : s.length ≤ 1000000) :
    Calls Try.prog 96 #[.pointer (some ⟨pb, 0, none⟩)] w (RTo b w (fun p _ v => v = .agg (pointC p).toArray) (ptR s)) := by
  have h0 := h.below ((Below.refl _ _).alloc (Nat.le_refl _) (.cells (pointC zeroPoint).toArray 59))
  have p0 := hp.below ((Below.refl _ _).alloc (Nat.le_refl _) (.cells (pointC zeroPoint).toArray 59))
  have B0 : Below w.heap.size w (w.alloc (.cells (pointC zeroPoint).toArray 59)) := (Below.refl _ _).alloc (Nat.le_refl _) _
  have k0 : (w.alloc (.cells (pointC zeroPoint).toArray 59)).heap[w.heap.size]? = some (.cells (pointC zeroPoint).toArray 59 (0, 0)) := heap_alloc_new w _
  have s0 : (w.alloc (.cells (pointC zeroPoint).toArray 59)).heap.size = w.heap.size + 1 := by simp
  obtain ⟨c1, c2⟩ := p0.cell
  have hbl := h.lt
  have hpl := hp.cell.2
  replace h := Box.mk h
  replace hp := Box.mk hp
  replace hs := Box.mk hs
  go_enter Try.func96, Try.ntmps96
  go_wp2_with fail
  generalize w.alloc (.cells (pointC zeroPoint).toArray 59) = w0 at *
  refine (rkey_any h0 hs.out).mono ?_
  rcases hk : keyR s with x | ⟨k, r⟩
  · have hR : ptR s = .error x := by unfold ptR; rw [hk]; rfl
    replace hR := Box.mk hR
    replace hk := Box.mk hk
    rintro e w1 ⟨rfl, o1⟩
    go_wp2
    exact ⟨rfl, RTo.err hR.out ((Oth.of B0).trans o1)⟩
  · rintro e w1 ⟨v, rfl, rfl, h1, o1⟩
    have hle := keyR_le hk
    have p1 := p0.oth o1
    have k1 := o1.keep k0 (by omega)
    have O1 : Oth b w w1 := (Oth.of B0).trans o1
    have s1 := o1.size
    have h2 := h1.below ((Below.refl _ _).alloc (Nat.le_refl _) (.cells (keyC k).toArray 38))
    have p2 := p1.below ((Below.refl _ _).alloc (Nat.le_refl _) (.cells (keyC k).toArray 38))
    have k2 : (w1.alloc (.cells (keyC k).toArray 38)).heap[w.heap.size]? = some (.cells (pointC zeroPoint).toArray 59 (0, 0)) := by rw [Below.heap_alloc _ _ _ (by omega)]; exact k1
    have q2 : (w1.alloc (.cells (keyC k).toArray 38)).heap[w1.heap.size]? = some (.cells (keyC k).toArray 38 (0, 0)) := heap_alloc_new w1 _
    have O2 := O1.alloc (.cells (keyC k).toArray 38)
    have s2 : (w1.alloc (.cells (keyC k).toArray 38)).heap.size = w1.heap.size + 1 := by simp
    have hRn : ptR s = thenR (numR 4 r) fun n q => .ok (⟨k, (n : Int)⟩, q) := by unfold ptR; rw [hk]; rfl
    replace hk := Box.mk hk
    replace h0 := Box.mk h0
    replace h1 := Box.mk h1
    replace p0 := Box.mk p0
    replace p1 := Box.mk p1
    replace k0 := Box.mk k0
    replace k1 := Box.mk k1
    replace o1 := Box.mk o1
    replace O1 := Box.mk O1
    clear c1 c2
    go_wp2_with fail
    generalize w1.alloc (.cells (keyC k).toArray 38) = w2 at *
    obtain ⟨tb, htb⟩ : ∃ t, t = w.heap.size := ⟨_, rfl⟩
    obtain ⟨kb, hkb⟩ : ∃ t, t = w1.heap.size := ⟨_, rfl⟩
    rw [← htb] at k2 s0 hbl hpl
    rw [← hkb] at q2 s2 s1
    rw [← htb, ← hkb]
    have hall : ∀ w', Oth2 b tb w2 w' → (rowOf w' kb 0 32 = some (keyC k) ∧ w'.cell? ⟨pb, 0, none⟩ = some (.pointer (some ⟨b, 0, none⟩)) ∧ pb < w'.heap.size ∧ kb < w'.heap.size ∧ tb < w'.heap.size) := fun w' h =>
      ⟨key_row' (h.keep q2 (by omega) (by omega)), by rw [cell_of_row w' pb 0 _ _ _ (h.keep p2.1 p2.2 (by omega))]; rfl, by have := h.size; omega, by have := h.size; omega, by have := h.size; omega⟩
    rcases hn : numR 4 r with x | ⟨n, q⟩
    · have hR : ptR s = .error x := by rw [hRn, hn]; rfl
      replace hR := Box.mk hR
      replace hRn := Box.mk hRn
      replace htb := Box.mk htb
      replace hkb := Box.mk hkb
      refine hreg_begin_p (T := fun c w' => RTo b w (fun p _ v => v = .agg (pointC p).toArray) (ptR s) (.panicked c) w') (fun c a w hd h => ⟨hd, h⟩) (S := Oth2 b tb w2) (by kernel_rfl) (Oth2.refl _ _ _).drew (fun hHeld => ?_)
      simp only [List.length_cons, List.length_nil, Nat.zero_add, Nat.reduceAdd, Array.replicate]
      refine hreg_take (i := 0) rfl (by kernel_rfl) (by kernel_rfl) (by kernel_rfl) hreg_panic_p (by rfl) hHeld ?_
      apply Exists.intro
      refine ⟨fun w' hw' => ?_, ?_⟩
      · have hf := hall w' hw'
        go_simp
        try go_bits
        exact yieldsV_mk rfl
      simp only [Act.put, List.setIfInBounds_toArray, List.set_cons_zero, List.set_cons_succ]
      refine hreg_take (i := 1) rfl (by kernel_rfl) (by kernel_rfl) (by kernel_rfl) hreg_panic_p (by rfl) hHeld ?_
      apply Exists.intro
      refine ⟨fun w' hw' => ?_, ?_⟩
      · have hf := hall w' hw'
        go_simp
        try go_bits
        exact yieldsV_mk rfl
      simp only [Act.put, List.setIfInBounds_toArray, List.set_cons_zero, List.set_cons_succ]
      refine wpAnyH_ready (rs := [2]) (by kernel_rfl) (by simp) ?_
      refine hreg_event (o := _) rfl (by rfl) (fun K hK => ?_) ?_
      · go_simp
        first
          | (go_at_call 93; refine (number4_any (h2.below (Below.refl _ _).drew)).mono ?_; rw [hn]; rintro e wn ⟨rfl, on⟩; exact ⟨rfl, RTo.err hR.out (O2.drew.trans on)⟩)
          | fail "die 2"
      exact AllReadyH.nil
    · have hR : ptR s = .ok (⟨k, (n : Int)⟩, q) := by rw [hRn, hn]; rfl
      have hn4 := (numR_le hn).2
      have hn4' : (n : Int) % 4294967296 = n := by omega
      replace hn4 := Box.mk hn4
      replace hR := Box.mk hR
      replace hRn := Box.mk hRn
      have hcp : ∀ w', Oth b w2 w' → canPut w' tb 0 33 = true := fun w' h => canPut_block (h.keep k2 (by omega)) 0 33 (by simp [pointC_length])
      replace htb := Box.mk htb
      replace hkb := Box.mk hkb
      refine hreg_begin (S := Oth2 b tb w2) (by kernel_rfl) (Oth2.refl _ _ _).drew (fun hHeld => ?_)
      simp only [List.length_cons, List.length_nil, Nat.zero_add, Nat.reduceAdd, Array.replicate]
      refine hreg_take (i := 0) rfl (by kernel_rfl) (by kernel_rfl) (by kernel_rfl) hreg_panic (by rfl) hHeld ?_
      apply Exists.intro
      refine ⟨fun w' hw' => ?_, ?_⟩
      · have hf := hall w' hw'
        go_simp
        try go_bits
        exact yieldsV_mk rfl
      simp only [Act.put, List.setIfInBounds_toArray, List.set_cons_zero, List.set_cons_succ]
      refine hreg_take (i := 1) rfl (by kernel_rfl) (by kernel_rfl) (by kernel_rfl) hreg_panic (by rfl) hHeld ?_
      apply Exists.intro
      refine ⟨fun w' hw' => ?_, ?_⟩
      · have hf := hall w' hw'
        go_simp
        try go_bits
        exact yieldsV_mk rfl
      simp only [Act.put, List.setIfInBounds_toArray, List.set_cons_zero, List.set_cons_succ]
      refine wpAnyH_ready (rs := [2]) (by kernel_rfl) (by simp) ?_
      refine hreg_event (o := _) rfl (by rfl) (fun K hK => ?_) ?_
      · go_simp
        first
          | (go_at_call 93; refine (number4_any (h2.below (Below.refl _ _).drew)).mono ?_; rw [hn]; rintro e wn ⟨v, rfl, rfl, h3, on⟩; replace on := (Oth.refl b w2).drew.trans on; have hcn := hcp _ on)
          | skip
        refine hK.out _ _ ?_ (fun hHeld' => ?_)
        · first
            | exact Oth2.of on
            | exact hHeld.setCells _ _
            | exact hHeld.next hb
            | exact hHeld
            | exact hHeld.alloc _
            | exact hHeld.setCell (by simp <;> omega) _
            | exact (hHeld.alloc _).alloc _
        replace hHeld := hHeld'
        clear hHeld' hK K
        simp only [Act.put, List.setIfInBounds_toArray, List.set_cons_zero, List.set_cons_succ]
        refine hreg_take (i := 3) rfl (by kernel_rfl) (by kernel_rfl) (by kernel_rfl) hreg_panic (by rfl) hHeld ?_
        apply Exists.intro
        refine ⟨fun w' hw' => ?_, ?_⟩
        · have hf := hall w' hw'
          go_simp
          try go_bits
          exact yieldsV_mk rfl
        simp only [Act.put, List.setIfInBounds_toArray, List.set_cons_zero, List.set_cons_succ]
        refine hreg_take (i := 4) rfl (by kernel_rfl) (by kernel_rfl) (by kernel_rfl) hreg_panic (by rfl) hHeld ?_
        apply Exists.intro
        refine ⟨fun w' hw' => ?_, ?_⟩
        · have hf := hall w' hw'
          go_simp
          try go_bits
          exact yieldsV_mk rfl
        simp only [Act.put, List.setIfInBounds_toArray, List.set_cons_zero, List.set_cons_succ]
        refine wpAnyH_ready (rs := [5]) (by kernel_rfl) (by simp) ?_
        refine hreg_event (o := _) rfl (by rfl) (fun K hK => ?_) ?_
        · go_simp
          first
            | skip
          refine hK.out _ _ ?_ (fun hHeld' => ?_)
          · first
              | exact hHeld.setCells _ _
              | exact hHeld.next hb
              | exact hHeld
              | exact hHeld.alloc _
              | exact hHeld.setCell (by simp <;> omega) _
              | exact (hHeld.alloc _).alloc _
          replace hHeld := hHeld'
          clear hHeld' hK K
          simp only [Act.put, List.setIfInBounds_toArray, List.set_cons_zero, List.set_cons_succ]
          refine wpAnyH_done (by kernel_rfl) ?_ _
          refine NoPanic.normal ?_
          have hrow := rowOf_of_rangeAt (World.rangeAt_setCells_same wn tb 0 (pointC ⟨k, (n : Int)⟩) (by rw [pointC_length]; exact canPut_there.1 hcn)) (pointC_length _)
          have h4 : RD b (wn.setCells tb 0 (pointC ⟨k, (n : Int)⟩)) q := ⟨by rw [(Oth2.setCells (Oth2.refl (b + 1) tb wn) 0 _).block b h3.lt (by omega) (by omega)]; exact h3.heap⟩
          have O4 : Oth b w (wn.setCells tb 0 (pointC ⟨k, (n : Int)⟩)) := hHeld.oth O2 (by rw [htb.out]; exact Nat.le_refl _)
          obtain ⟨wf, hwf⟩ : ∃ wf, wf = wn.setCells tb 0 (pointC ⟨k, (n : Int)⟩) := ⟨_, rfl⟩
          rw [← hwf] at hrow h4 O4 hHeld ⊢
          go_wp2
          refine bodyPost_ret (v := .agg (pointC ⟨k, (n : Int)⟩).toArray) (res1 Try.results96 (res_point (b := tb) (o := 0) (by simp [go_sem]) hrow)) rfl ?_
          exact RTo.mk hR.out rfl h4 O4
        exact AllReadyH.nil
      exact AllReadyH.nil

set_option maxHeartbeats 2000000 in
theorem rout_any {pb b : Nat} {w : World} {s : List UInt8} (h : RD b w s) (hp : PB pb b w) (hs : s.length ≤ 1000000) :
    Calls Try.prog 99 #[.pointer (some ⟨pb, 0, none⟩)] w (RTo b w (fun p _ v => v = .agg (outC p).toArray) (outR s)) := by
  have h0 := h.below ((Below.refl _ _).alloc (Nat.le_refl _) (.cells (outC zeroOut).toArray 101))
  have p0 := hp.below ((Below.refl _ _).alloc (Nat.le_refl _) (.cells (outC zeroOut).toArray 101))
  have B0 : Below w.heap.size w (w.alloc (.cells (outC zeroOut).toArray 101)) := (Below.refl _ _).alloc (Nat.le_refl _) _
  have k0 : (w.alloc (.cells (outC zeroOut).toArray 101)).heap[w.heap.size]? = some (.cells (outC zeroOut).toArray 101 (0, 0)) := heap_alloc_new w _
  have s0 : (w.alloc (.cells (outC zeroOut).toArray 101)).heap.size = w.heap.size + 1 := by simp
  obtain ⟨c1, c2⟩ := p0.cell
  have hbl := h.lt
  have hpl := hp.cell.2
  replace h := Box.mk h
  replace hp := Box.mk hp
  replace hs := Box.mk hs
  go_enter Try.func99, Try.ntmps99
  go_wp2_with fail
  generalize w.alloc (.cells (outC zeroOut).toArray 101) = w0 at *
  refine (number8_any h0).mono ?_
  rcases hk : numR 8 s with x | ⟨n, r⟩
  · have hR : outR s = .error x := by unfold outR; rw [hk]; rfl
    replace hR := Box.mk hR
    replace hk := Box.mk hk
    rintro e w1 ⟨rfl, o1⟩
    go_wp2
    exact ⟨rfl, RTo.err hR.out ((Oth.of B0).trans o1)⟩
  · rintro e w1 ⟨v, rfl, rfl, h1, o1⟩
    have hle := (numR_le hk).1
    have hr : r.length ≤ 1000000 := by have := hs.out; omega
    have p1 := p0.oth o1
    have k1 := o1.keep k0 (by omega)
    have O1 : Oth b w w1 := (Oth.of B0).trans o1
    have s1 := o1.size
    have hRn : outR s = thenR (keyR r) fun k q => .ok (⟨i64N n, k⟩, q) := by unfold outR; rw [hk]; rfl
    obtain ⟨d1, d2⟩ := p1.cell
    replace hk := Box.mk hk
    replace h0 := Box.mk h0
    replace p0 := Box.mk p0
    replace p1 := Box.mk p1
    replace k0 := Box.mk k0
    replace hle := Box.mk hle
    replace hr := Box.mk hr
    clear c1 c2
    go_wp2_with fail
    refine (rkey_any h1 hr.out).mono ?_
    rcases hn : keyR r with x | ⟨k, q⟩
    · have hR : outR s = .error x := by rw [hRn, hn]; rfl
      replace hR := Box.mk hR
      replace hRn := Box.mk hRn
      replace hn := Box.mk hn
      replace h1 := Box.mk h1
      rintro e w2 ⟨rfl, o2⟩
      go_wp2
      exact ⟨rfl, RTo.err hR.out (O1.trans o2)⟩
    · rintro e w2 ⟨v, rfl, rfl, h2, o2⟩
      have hR : outR s = .ok (⟨i64N n, k⟩, q) := by rw [hRn, hn]; rfl
      replace hR := Box.mk hR
      replace hRn := Box.mk hRn
      replace hn := Box.mk hn
      have k2 := o2.keep k1 (by omega)
      have s2 := o2.size
      have hcn : canPut w2 w.heap.size 0 33 = true := canPut_block k2 0 33 (by simp [outC_length])
      have hrow := rowOf_of_rangeAt (World.rangeAt_setCells_same w2 w.heap.size 0 (outC ⟨i64N n, k⟩) (by rw [outC_length]; exact canPut_there.1 hcn)) (outC_length _)
      have h4 : RD b (w2.setCells w.heap.size 0 (outC ⟨i64N n, k⟩)) q := ⟨by rw [(Oth2.setCells (Oth2.refl (b + 1) w.heap.size w2) 0 _).block b h2.lt (by omega) (by omega)]; exact h2.heap⟩
      have O4 : Oth b w (w2.setCells w.heap.size 0 (outC ⟨i64N n, k⟩)) := ((Oth2.refl b w.heap.size w2).setCells 0 _).oth (O1.trans o2) (Nat.le_refl _)
      have l2 : w.heap.size < w2.heap.size := by omega
      have hw64 : wrap64 (n : Int) = i64N n := rfl
      replace h1 := Box.mk h1
      replace h2 := Box.mk h2
      replace k1 := Box.mk k1
      replace k2 := Box.mk k2
      replace o1 := Box.mk o1
      replace o2 := Box.mk o2
      replace O1 := Box.mk O1
      clear d1 d2
      go_wp2
      obtain ⟨wf, hwf⟩ : ∃ wf, wf = w2.setCells w.heap.size 0 (outC ⟨i64N n, k⟩) := ⟨_, rfl⟩
      rw [← hwf] at hrow h4 O4 ⊢
      refine bodyPost_ret (v := .agg (outC ⟨i64N n, k⟩).toArray) (res1 Try.results99 (res_out (b := w.heap.size) (o := 0) (by simp [go_sem]) hrow)) rfl ?_
      exact RTo.mk hR.out rfl h4 O4

end Go.Proofs.Ytahkiabpjfcfdaa
