/- Package tx: what is written of a transaction's parts. -/
import Derived.Test.YtahkiabpjfcfdaaBld
import Derived.Test.YtahkiabpjfcfdaaTx
import Derived.Test.YtahkiabpjfcfdaaLawEnd
import Derived.WalkLawsBesides
import Derived.WalkSpells
namespace Go.Proofs.Ytahkiabpjfcfdaa
open Go.RowKit
set_option linter.unusedVariables false
set_option linter.unusedSimpArgs false
set_option maxRecDepth 100000
attribute [local irreducible] Int.lt Int.le
attribute [local go_sem ↓] load_key store_key alloc_key build0_key eq_key load_point store_point alloc_point load_out store_out alloc_out load_tx store_tx alloc_tx
attribute [local go_sem] rowOf_drew rowOf_alloc_old rowOf_alloc_new canPut_drew canPut_alloc_old canPut_alloc_new setCells_alloc_new

/-- A number as sixty-four bits. -/
def u64N (v : Int) : Nat := (v % 18446744073709551616).toNat
theorem u64N_lt (v : Int) : u64N v < 18446744073709551616 := by unfold u64N; omega
theorem u64N_wrap (v : Int) : IntKind.u64.wrap v = (u64N v : Int) := by rw [IntKind.wrap_u64]; unfold u64N; omega
theorem u64N_nat (n : Nat) (h : n < 18446744073709551616) : u64N (n : Int) = n := by unfold u64N; omega
def ptB (p : PointV) : List UInt8 := p.tx.val ++ le 4 p.idx.toNat
def outB (o : OutV) : List UInt8 := le 8 (u64N o.value) ++ o.lock.val
theorem ptB_length (p : PointV) : (ptB p).length = 36 := by unfold ptB; rw [List.length_append, le_length, p.tx.property]
theorem outB_length (p : OutV) : (outB p).length = 40 := by unfold outB; rw [List.length_append, le_length, p.lock.property]
theorem pt_row {w : World} {b o : Nat} {p : PointV} (h : rowOf w b o 33 = some (pointC p)) : rowOf w b o 32 = some (keyC p.tx) ∧ w.cell? ⟨b, o + 32, none⟩ = some (.int .u32 p.idx) := by
  constructor
  · have := rowOf_sub h 0 32 (by omega)
    rw [Nat.add_zero, List.drop_zero] at this
    rw [this]
    unfold pointC
    rw [List.take_append_of_le_length (by rw [keyC_length]; exact Nat.le_refl _), List.take_of_length_le (by rw [keyC_length]; exact Nat.le_refl _)]
  · exact (rowOf_some.1 h).2 32 (.int .u32 p.idx) (by unfold pointC; rw [List.getElem?_append_right (by rw [keyC_length]; exact Nat.le_refl _), keyC_length]; rfl)
theorem out_row {w : World} {b o : Nat} {p : OutV} (h : rowOf w b o 33 = some (outC p)) : rowOf w b (o + 1) 32 = some (keyC p.lock) ∧ w.cell? ⟨b, o, none⟩ = some (.int .i64 p.value) := by
  constructor
  · have := rowOf_sub h 1 32 (by omega)
    rw [this]
    unfold outC
    rw [List.drop_succ_cons, List.drop_zero, List.take_of_length_le (by rw [keyC_length]; exact Nat.le_refl _)]
  · have := (rowOf_some.1 h).2 0 (.int .i64 p.value) (by unfold outC; rfl)
    rwa [Nat.add_zero] at this

/-- The variable that holds the writer of keys. -/
def KB (b kb : Nat) (w : World) : Prop := w.heap[kb]? = some (.cells #[.func (.func 82) #[] #[.pointer (some ⟨b, 0, none⟩)]] 112 (0, 0)) ∧ kb ≠ b
theorem KB.keep {b kb : Nat} {w w' : World} (h : KB b kb w) (hk : Kp b w w') : KB b kb w' := ⟨hk.heap h.1 h.2 (by decide), h.2⟩
theorem KB.cell {b kb : Nat} {w : World} (h : KB b kb w) : w.cell? ⟨kb, 0, none⟩ = some (.func (.func 82) #[] #[.pointer (some ⟨b, 0, none⟩)]) ∧ kb < w.heap.size :=
  ⟨by rw [cell_of_row w kb 0 _ _ _ h.1]; rfl, (Array.getElem?_eq_some_iff.1 h.1).1⟩
/-- Written. -/
def Wrote (b : Nat) (bs : List UInt8) (w : World) (e : Ending) (w' : World) : Prop := e = .returned (.tuple #[]) ∧ Bld w' b bs ∧ Kp b w w'

set_option maxHeartbeats 1000000 in
theorem enc1_any {b : Nat} {bs : List UInt8} (k : Key) {w : World} (h : Bld w b bs) (hlen : bs.length ≤ 100000) :
    Calls Try.prog 82 #[.agg (keyC k).toArray, .pointer (some ⟨b, 0, none⟩)] w (Wrote b (bs ++ k.val) w) := by
  have hk1 : Kp b w (w.alloc (.cells (keyC k).toArray 38)) := (Kp.refl b w).alloc (Nat.le_of_lt h.lt) _
  have hr1 : rowOf (w.alloc (.cells (keyC k).toArray 38)) w.heap.size 0 32 = some (keyC k) := rowOf_alloc_new _ _ _ _ _ _ rfl (keyC_length k)
  have h1 := h.alloc (.cells (keyC k).toArray 38)
  have hlt := h.lt
  replace h := Box.mk h
  go_enter Try.func82, Try.ntmps82
  go_wp2_with fail
  generalize w.alloc (.cells (keyC k).toArray 38) = w1 at *
  refine (bytes_any k w1).mono ?_
  rintro e w2 ⟨rfl, hb2⟩
  have h2 := h1.below hb2
  have hk2 := hk1.next (Nat.le_of_lt h1.lt) hb2
  replace h1 := Box.mk h1
  go_wp2_with fail
  refine (ws_any k.val h2 (by rw [k.property]; omega)).mono ?_
  rintro e w3 ⟨rfl, h3, hk3⟩
  replace h3 := Box.mk h3
  replace h2 := Box.mk h2
  go_wp2
  go_end0
  exact ⟨rfl, h3.out, hk2.trans hk3⟩

set_option maxHeartbeats 1000000 in
theorem enc2_any {b kb : Nat} {bs : List UInt8} (p : PointV) {w : World} (h : Bld w b bs) (hK : KB b kb w) (hp : 0 ≤ p.idx ∧ p.idx ≤ 4294967295) (hlen : bs.length ≤ 90000) :
    Calls Try.prog 85 #[.agg (pointC p).toArray, .pointer (some ⟨kb, 0, none⟩), .pointer (some ⟨b, 0, none⟩)] w (Wrote b (bs ++ ptB p) w) := by
  have hk1 : Kp b w (w.alloc (.cells (pointC p).toArray 59)) := (Kp.refl b w).alloc (Nat.le_of_lt h.lt) _
  have hH1 : (w.alloc (.cells (pointC p).toArray 59)).heap[w.heap.size]? = some (.cells (pointC p).toArray 59 (0, 0)) := heap_alloc_new w _
  have hr1 : ∀ w', w'.heap[w.heap.size]? = some (.cells (pointC p).toArray 59 (0, 0)) → rowOf w' w.heap.size 0 33 = some (pointC p) := fun w' hw => by
    have := rowOf_block hw 0 33 (by simp [pointC_length])
    rw [this]; congr 1; simp; exact List.take_of_length_le (by rw [pointC_length]; exact Nat.le_refl _)
  have h1 := h.alloc (.cells (pointC p).toArray 59)
  have hlt := h.lt
  have hs1 : (w.alloc (.cells (pointC p).toArray 59)).heap.size = w.heap.size + 1 := by simp
  have hK1 := hK.keep hk1
  obtain ⟨i, hi⟩ : ∃ i : Nat, p.idx = i := ⟨p.idx.toNat, by omega⟩
  have hi2 : i < 18446744073709551616 := by omega
  have hB : bs ++ ptB p = (bs ++ p.tx.val) ++ le 4 i := by unfold ptB; rw [hi, Int.toNat_natCast, List.append_assoc]
  replace hB := Box.mk hB
  replace h := Box.mk h
  replace hK := Box.mk hK
  obtain ⟨c1, c2⟩ := pt_row (hr1 _ hH1)
  obtain ⟨d1, d2⟩ := hK1.cell
  rw [Nat.zero_add, hi] at c2
  go_enter Try.func85, Try.ntmps85
  go_wp2_with fail
  generalize w.alloc (.cells (pointC p).toArray 59) = w1 at *
  refine (enc1_any p.tx h1 (by omega)).mono ?_
  rintro e w2 ⟨rfl, h2, hk2⟩
  have hH2 := hk2.heap hH1 (by omega) (by decide)
  have hs2 := hk2.size
  obtain ⟨c3, c4⟩ := pt_row (hr1 _ hH2)
  rw [Nat.zero_add, hi] at c4
  replace hr1 := Box.mk hr1
  replace h1 := Box.mk h1
  replace hK1 := Box.mk hK1
  clear c1 c2 c3 d1
  have hw : w.heap.size < w2.heap.size := by omega
  go_wp2_with fail
  refine (put_any i 4 w2 hi2).mono ?_
  rintro e w3 ⟨rfl, hb3⟩
  rw [show putL i 4 = le 4 i from putL_nat i 4 (by omega) (by omega)]
  have h3 := h2.below hb3
  have hk3 := (hk1.trans hk2).next (Nat.le_of_lt h2.lt) hb3
  replace h2 := Box.mk h2
  go_wp2_with fail
  refine (ws_any (le 4 i) h3 (by rw [le_length, List.length_append, p.tx.property]; omega)).mono ?_
  rintro e w4 ⟨rfl, h4, hk4⟩
  rw [← hB.out] at h4
  replace h3 := Box.mk h3
  replace h4 := Box.mk h4
  go_wp2
  go_end0
  exact ⟨rfl, h4.out, hk3.trans hk4⟩

set_option maxHeartbeats 1000000 in
theorem enc3_any {b kb : Nat} {bs : List UInt8} (p : OutV) {w : World} (h : Bld w b bs) (hK : KB b kb w) (hlen : bs.length ≤ 90000) :
    Calls Try.prog 87 #[.agg (outC p).toArray, .pointer (some ⟨b, 0, none⟩), .pointer (some ⟨kb, 0, none⟩)] w (Wrote b (bs ++ outB p) w) := by
  have hk1 : Kp b w (w.alloc (.cells (outC p).toArray 101)) := (Kp.refl b w).alloc (Nat.le_of_lt h.lt) _
  have hH1 : (w.alloc (.cells (outC p).toArray 101)).heap[w.heap.size]? = some (.cells (outC p).toArray 101 (0, 0)) := heap_alloc_new w _
  have hr1 : ∀ w', w'.heap[w.heap.size]? = some (.cells (outC p).toArray 101 (0, 0)) → rowOf w' w.heap.size 0 33 = some (outC p) := fun w' hw => by
    have := rowOf_block hw 0 33 (by simp [outC_length])
    rw [this]; congr 1; simp; exact List.take_of_length_le (by rw [outC_length]; exact Nat.le_refl _)
  have h1 := h.alloc (.cells (outC p).toArray 101)
  have hlt := h.lt
  have hs1 : (w.alloc (.cells (outC p).toArray 101)).heap.size = w.heap.size + 1 := by simp
  have hK1 := hK.keep hk1
  have hB : bs ++ outB p = (bs ++ le 8 (u64N p.value)) ++ p.lock.val := by unfold outB; rw [List.append_assoc]
  replace hB := Box.mk hB
  replace h := Box.mk h
  replace hK := Box.mk hK
  obtain ⟨c1, c2⟩ := out_row (hr1 _ hH1)
  go_enter Try.func87, Try.ntmps87
  go_wp2_with fail
  generalize w.alloc (.cells (outC p).toArray 101) = w1 at *
  rw [u64N_wrap]
  refine (put_any (u64N p.value) 8 w1 (u64N_lt _)).mono ?_
  rintro e w2 ⟨rfl, hb2⟩
  rw [show putL (u64N p.value) 8 = le 8 (u64N p.value) from putL_nat _ 8 (by omega) (by omega)]
  have h2 := h1.below hb2
  have hk2 := hk1.next (Nat.le_of_lt h1.lt) hb2
  replace h1 := Box.mk h1
  go_wp2_with fail
  refine (ws_any (le 8 (u64N p.value)) h2 (by rw [le_length]; omega)).mono ?_
  rintro e w3 ⟨rfl, h3, hk3⟩
  have hH3 := hk3.heap (by rw [hb2.block w.heap.size (by omega)]; exact hH1) (by omega) (by decide)
  have hs3 := hk3.size
  have hs2 := hb2.size
  obtain ⟨c3, c4⟩ := out_row (hr1 _ hH3)
  obtain ⟨d1, d2⟩ := ((hK1.keep (Kp.of hb2 (Nat.le_of_lt h1.out.lt))).keep hk3).cell
  replace hr1 := Box.mk hr1
  replace h2 := Box.mk h2
  replace hK1 := Box.mk hK1
  clear c1 c2 c4
  have hw : w.heap.size < w3.heap.size := by omega
  go_wp2_with fail
  refine (enc1_any p.lock h3 (by rw [List.length_append, le_length]; omega)).mono ?_
  rintro e w4 ⟨rfl, h4, hk4⟩
  rw [← hB.out] at h4
  replace h3 := Box.mk h3
  replace h4 := Box.mk h4
  go_wp2
  go_end0
  exact ⟨rfl, h4.out, (hk2.trans hk3).trans hk4⟩

/-- What is written of a list's elements, from place i on. -/
def catF {α : Type} (F : Nat → α → List UInt8) : Nat → List α → List UInt8
  | _, [] => []
  | i, x :: l => F i x ++ catF F (i + 1) l
theorem catF_append {α : Type} (F : Nat → α → List UInt8) : ∀ (l m : List α) (i : Nat), catF F i (l ++ m) = catF F i l ++ catF F (i + l.length) m
  | [], m, i => by simp [catF]
  | x :: l, m, i => by
    rw [List.cons_append, catF, catF_append F l m (i + 1), catF, List.append_assoc, List.length_cons, show i + 1 + l.length = i + (l.length + 1) from by omega]
theorem catF_succ {α : Type} {F : Nat → α → List UInt8} {l : List α} {j : Nat} {x : α} (h : l[j]? = some x) : catF F 0 (l.take (j + 1)) = catF F 0 (l.take j) ++ F j x := by
  have hj := (List.getElem?_eq_some_iff.1 h).1
  rw [List.take_add_one, h, catF_append, List.length_take, Nat.min_eq_left (by omega), Nat.zero_add]
  show _ ++ (F j x ++ []) = _
  rw [List.append_nil]
theorem catF_length {α : Type} {F : Nat → α → List UInt8} {m : Nat} (hF : ∀ i x, (F i x).length ≤ m) : ∀ (l : List α) (i : Nat), (catF F i l).length ≤ l.length * m
  | [], i => by simp [catF]
  | x :: l, i => by
    have := catF_length hF l (i + 1)
    have := hF i x
    rw [catF, List.length_append, List.length_cons, Nat.add_mul]; omega
theorem catF_plain {α : Type} (f : α → List UInt8) : ∀ (l : List α) (i : Nat), catF (fun _ x => f x) i l = l.flatMap f
  | [], _ => rfl
  | x :: l, i => by rw [catF, catF_plain f l, List.flatMap_cons]

set_option maxHeartbeats 2000000 in
theorem wr_pt (g : Nat) (lb : Array Value) (F : Nat → PointV → List UInt8) (I : Nat → World → Prop) (b : Nat) (a : Option Addr) (n c : Nat) (l : List PointV) (W0 : World)
    (eg : ∀ args w, (callFunc g args).run Try.prog w = .ok (.enter g args) w) (hI : ∀ i w w', I i w → Kp b w w' → I i w')
    (hF : ∀ i x w bs, x ∈ l → Bld w b bs → I i w → bs.length ≤ 80000 → Calls Try.prog g (#[.agg (pointC x).toArray] ++ lb) w (fun e w' => e = .returned (.tuple #[]) ∧ Bld w' b (bs ++ F i x) ∧ I (i + 1) w' ∧ Below b w w'))
    (hFl : ∀ i x, (F i x).length ≤ 64) (hS : SL pointC 33 W0 a n c l) (hb0 : W0.heap.size ≤ b) (hn : n ≤ 40) (w : World) (hW : Below W0.heap.size W0 w) (bs : List UInt8) (hB : Bld w b bs) (hbl : bs.length ≤ 50000) (h0 : I 0 w) :
    Calls Try.prog 84 #[.pointer (some ⟨b, 0, none⟩), .slice a n c, .func (.func g) #[] lb] w (fun e w' => e = .returned (.tuple #[]) ∧ Bld w' b (bs ++ compactL n ++ catF F 0 l) ∧ I n w' ∧ Below b w w') := by
  have hl := Box.mk hS.1
  have hcl : (compactL n).length ≤ 9 := by rw [compactL_length]; split <;> (try split) <;> (try split) <;> omega
  have hn64 : n < 18446744073709551616 := by omega
  replace hS := Box.mk hS
  replace hW := Box.mk hW
  have hIb := Box.mk hI
  replace hI := Box.mk hI
  replace hFl := Box.mk hFl
  go_enter Try.func84, Try.ntmps84
  go_wp2_with fail
  refine (compact_any n w hn64).mono ?_
  rintro e w1 ⟨rfl, hb1⟩
  have h1 := hB.below hb1
  have i1 := hI.out 0 w w1 h0 (Kp.of hb1 (Nat.le_of_lt hB.lt))
  have k1 : Below b w w1 := hb1.mono (Nat.le_of_lt hB.lt)
  replace hB := Box.mk hB
  replace h0 := Box.mk h0
  go_wp2_with fail
  refine (ws_any (compactL n) h1 (by omega)).mono ?_
  rintro e w2 ⟨rfl, h2, hk2⟩
  have i2 := hI.out 0 w1 w2 i1 hk2
  have k2 : Below b w w2 := k1.trans hk2.below
  replace h1 := Box.mk h1
  replace i1 := Box.mk i1
  go_wp2_with fail
  go_loopw [16] (fun i wr => Below b w wr ∧ ∃ j : Nat, j ≤ n ∧ i = .int .i64 j ∧ Bld wr b (bs ++ compactL n ++ catF F 0 (l.take j)) ∧ I j wr) (fun i _ => n - (intOf i).toNat)
  case atStart => exact ⟨k2, 0, Nat.zero_le _, rfl, by rw [List.take_zero]; simpa [catF] using h2, i2⟩
  case round =>
    obtain ⟨hbr, j, hj, rfl, hbd, hi⟩ := hrel
    have hlt0 := hbd.lt
    by_cases hlt : j < n
    · have hlt' : (j : Int) < (n : Int) := by omega
      have hjl : j < l.length := by rw [← hl.out]; exact hlt
      have hx : l[j]? = some l[j] := List.getElem?_eq_getElem hjl
      have hmem := List.getElem_mem hjl
      obtain ⟨b0, o, rfl, hb0', hr⟩ := SL.elem pointC_length hS.out hx
      have R1 : rowOf wr b0 (o + j * 33) 33 = some (pointC l[j]) := by rw [rowOf_congr (hbr.block b0 (by omega)), rowOf_congr (hW.out.block b0 hb0')]; exact hr
      have s1 : b0 < wr.heap.size := by omega
      have hcs := catF_succ (F := F) hx
      have hcl2 : (catF F 0 (l.take j)).length ≤ 40 * 64 := by
        have := catF_length hFl.out (l.take j) 0
        rw [List.length_take] at this
        have h3 : min j l.length * 64 ≤ 40 * 64 := Nat.mul_le_mul_right _ (by omega)
        omega
      generalize l[j] = v at *
      have hBa : Below wr.heap.size wr (wr.alloc (.cells (pointC v).toArray 59)) := (Below.refl _ _).alloc (Nat.le_refl _) _
      have hV : rowOf (wr.alloc (.cells (pointC v).toArray 59)) wr.heap.size 0 33 = some (pointC v) := rowOf_alloc_new _ _ _ _ _ _ rfl (pointC_length v)
      have hcall := hF j v (wr.alloc (.cells (pointC v).toArray 59)) (bs ++ compactL n ++ catF F 0 (l.take j)) hmem (hbd.below hBa) (hI.out j wr _ hi (Kp.of hBa (Nat.le_of_lt hlt0))) (by simp only [List.length_append]; omega)
      have hbr2 : Below b w (wr.alloc (.cells (pointC v).toArray 59)) := hbr.trans (hBa.mono (Nat.le_of_lt hlt0))
      rw [List.append_assoc _ _ (F j v), ← hcs] at hcall
      replace hcs := Box.mk hcs
      replace hbd := Box.mk hbd
      replace hi := Box.mk hi
      replace hcall := Box.mk hcall
      replace hx := Box.mk hx
      replace hr := Box.mk hr
      replace hmem := Box.mk hmem
      go_wp2_with fail
      generalize wr.alloc (.cells (pointC v).toArray 59) = w3 at *
      refine hcall.out.mono ?_
      rintro e w4 ⟨rfl, h4, hi4, hb4⟩
      replace h4 := Box.mk h4
      replace hi4 := Box.mk hi4
      go_wp2
      go_roundw
      case rel => exact ⟨hbr2.trans hb4, j + 1, by omega, by go_num, h4.out, hi4.out⟩
      case measure => simp [intOf]; omega
    · obtain rfl : j = n := by omega
      have ht : l.take j = l := by rw [hl.out, List.take_length]
      rw [ht] at hbd
      replace hbd := Box.mk hbd
      replace hi := Box.mk hi
      replace ht := Box.mk ht
      go_wp2
      go_end0
      exact ⟨rfl, hbd.out, hi.out, hbr⟩

set_option maxHeartbeats 2000000 in
theorem wr_out (g : Nat) (lb : Array Value) (F : Nat → OutV → List UInt8) (I : Nat → World → Prop) (b : Nat) (a : Option Addr) (n c : Nat) (l : List OutV) (W0 : World)
    (eg : ∀ args w, (callFunc g args).run Try.prog w = .ok (.enter g args) w) (hI : ∀ i w w', I i w → Kp b w w' → I i w')
    (hF : ∀ i x w bs, x ∈ l → Bld w b bs → I i w → bs.length ≤ 80000 → Calls Try.prog g (#[.agg (outC x).toArray] ++ lb) w (fun e w' => e = .returned (.tuple #[]) ∧ Bld w' b (bs ++ F i x) ∧ I (i + 1) w' ∧ Below b w w'))
    (hFl : ∀ i x, (F i x).length ≤ 64) (hS : SL outC 33 W0 a n c l) (hb0 : W0.heap.size ≤ b) (hn : n ≤ 40) (w : World) (hW : Below W0.heap.size W0 w) (bs : List UInt8) (hB : Bld w b bs) (hbl : bs.length ≤ 50000) (h0 : I 0 w) :
    Calls Try.prog 86 #[.pointer (some ⟨b, 0, none⟩), .slice a n c, .func (.func g) #[] lb] w (fun e w' => e = .returned (.tuple #[]) ∧ Bld w' b (bs ++ compactL n ++ catF F 0 l) ∧ I n w' ∧ Below b w w') := by
  have hl := Box.mk hS.1
  have hcl : (compactL n).length ≤ 9 := by rw [compactL_length]; split <;> (try split) <;> (try split) <;> omega
  have hn64 : n < 18446744073709551616 := by omega
  replace hS := Box.mk hS
  replace hW := Box.mk hW
  have hIb := Box.mk hI
  replace hI := Box.mk hI
  replace hFl := Box.mk hFl
  go_enter Try.func86, Try.ntmps86
  go_wp2_with fail
  refine (compact_any n w hn64).mono ?_
  rintro e w1 ⟨rfl, hb1⟩
  have h1 := hB.below hb1
  have i1 := hI.out 0 w w1 h0 (Kp.of hb1 (Nat.le_of_lt hB.lt))
  have k1 : Below b w w1 := hb1.mono (Nat.le_of_lt hB.lt)
  replace hB := Box.mk hB
  replace h0 := Box.mk h0
  go_wp2_with fail
  refine (ws_any (compactL n) h1 (by omega)).mono ?_
  rintro e w2 ⟨rfl, h2, hk2⟩
  have i2 := hI.out 0 w1 w2 i1 hk2
  have k2 : Below b w w2 := k1.trans hk2.below
  replace h1 := Box.mk h1
  replace i1 := Box.mk i1
  go_wp2_with fail
  go_loopw [16] (fun i wr => Below b w wr ∧ ∃ j : Nat, j ≤ n ∧ i = .int .i64 j ∧ Bld wr b (bs ++ compactL n ++ catF F 0 (l.take j)) ∧ I j wr) (fun i _ => n - (intOf i).toNat)
  case atStart => exact ⟨k2, 0, Nat.zero_le _, rfl, by rw [List.take_zero]; simpa [catF] using h2, i2⟩
  case round =>
    obtain ⟨hbr, j, hj, rfl, hbd, hi⟩ := hrel
    have hlt0 := hbd.lt
    by_cases hlt : j < n
    · have hlt' : (j : Int) < (n : Int) := by omega
      have hjl : j < l.length := by rw [← hl.out]; exact hlt
      have hx : l[j]? = some l[j] := List.getElem?_eq_getElem hjl
      have hmem := List.getElem_mem hjl
      obtain ⟨b0, o, rfl, hb0', hr⟩ := SL.elem outC_length hS.out hx
      have R1 : rowOf wr b0 (o + j * 33) 33 = some (outC l[j]) := by rw [rowOf_congr (hbr.block b0 (by omega)), rowOf_congr (hW.out.block b0 hb0')]; exact hr
      have s1 : b0 < wr.heap.size := by omega
      have hcs := catF_succ (F := F) hx
      have hcl2 : (catF F 0 (l.take j)).length ≤ 40 * 64 := by
        have := catF_length hFl.out (l.take j) 0
        rw [List.length_take] at this
        have h3 : min j l.length * 64 ≤ 40 * 64 := Nat.mul_le_mul_right _ (by omega)
        omega
      generalize l[j] = v at *
      have hBa : Below wr.heap.size wr (wr.alloc (.cells (outC v).toArray 101)) := (Below.refl _ _).alloc (Nat.le_refl _) _
      have hV : rowOf (wr.alloc (.cells (outC v).toArray 101)) wr.heap.size 0 33 = some (outC v) := rowOf_alloc_new _ _ _ _ _ _ rfl (outC_length v)
      have hcall := hF j v (wr.alloc (.cells (outC v).toArray 101)) (bs ++ compactL n ++ catF F 0 (l.take j)) hmem (hbd.below hBa) (hI.out j wr _ hi (Kp.of hBa (Nat.le_of_lt hlt0))) (by simp only [List.length_append]; omega)
      have hbr2 : Below b w (wr.alloc (.cells (outC v).toArray 101)) := hbr.trans (hBa.mono (Nat.le_of_lt hlt0))
      rw [List.append_assoc _ _ (F j v), ← hcs] at hcall
      replace hcs := Box.mk hcs
      replace hbd := Box.mk hbd
      replace hi := Box.mk hi
      replace hcall := Box.mk hcall
      replace hx := Box.mk hx
      replace hr := Box.mk hr
      replace hmem := Box.mk hmem
      go_wp2_with fail
      generalize wr.alloc (.cells (outC v).toArray 101) = w3 at *
      refine hcall.out.mono ?_
      rintro e w4 ⟨rfl, h4, hi4, hb4⟩
      replace h4 := Box.mk h4
      replace hi4 := Box.mk hi4
      go_wp2
      go_roundw
      case rel => exact ⟨hbr2.trans hb4, j + 1, by omega, by go_num, h4.out, hi4.out⟩
      case measure => simp [intOf]; omega
    · obtain rfl : j = n := by omega
      have ht : l.take j = l := by rw [hl.out, List.take_length]
      rw [ht] at hbd
      replace hbd := Box.mk hbd
      replace hi := Box.mk hi
      replace ht := Box.mk ht
      go_wp2
      go_end0
      exact ⟨rfl, hbd.out, hi.out, hbr⟩

set_option maxHeartbeats 2000000 in
theorem wr_key (g : Nat) (lb : Array Value) (F : Nat → Key → List UInt8) (I : Nat → World → Prop) (b : Nat) (a : Option Addr) (n c : Nat) (l : List Key) (W0 : World)
    (eg : ∀ args w, (callFunc g args).run Try.prog w = .ok (.enter g args) w) (hI : ∀ i w w', I i w → Kp b w w' → I i w')
    (hF : ∀ i x w bs, x ∈ l → Bld w b bs → I i w → bs.length ≤ 80000 → Calls Try.prog g (#[.agg (keyC x).toArray] ++ lb) w (fun e w' => e = .returned (.tuple #[]) ∧ Bld w' b (bs ++ F i x) ∧ I (i + 1) w' ∧ Below b w w'))
    (hFl : ∀ i x, (F i x).length ≤ 64) (hS : SL keyC 32 W0 a n c l) (hb0 : W0.heap.size ≤ b) (hn : n ≤ 40) (w : World) (hW : Below W0.heap.size W0 w) (bs : List UInt8) (hB : Bld w b bs) (hbl : bs.length ≤ 50000) (h0 : I 0 w) :
    Calls Try.prog 88 #[.pointer (some ⟨b, 0, none⟩), .slice a n c, .func (.func g) #[] lb] w (fun e w' => e = .returned (.tuple #[]) ∧ Bld w' b (bs ++ compactL n ++ catF F 0 l) ∧ I n w' ∧ Below b w w') := by
  have hl := Box.mk hS.1
  have hcl : (compactL n).length ≤ 9 := by rw [compactL_length]; split <;> (try split) <;> (try split) <;> omega
  have hn64 : n < 18446744073709551616 := by omega
  replace hS := Box.mk hS
  replace hW := Box.mk hW
  have hIb := Box.mk hI
  replace hI := Box.mk hI
  replace hFl := Box.mk hFl
  go_enter Try.func88, Try.ntmps88
  go_wp2_with fail
  refine (compact_any n w hn64).mono ?_
  rintro e w1 ⟨rfl, hb1⟩
  have h1 := hB.below hb1
  have i1 := hI.out 0 w w1 h0 (Kp.of hb1 (Nat.le_of_lt hB.lt))
  have k1 : Below b w w1 := hb1.mono (Nat.le_of_lt hB.lt)
  replace hB := Box.mk hB
  replace h0 := Box.mk h0
  go_wp2_with fail
  refine (ws_any (compactL n) h1 (by omega)).mono ?_
  rintro e w2 ⟨rfl, h2, hk2⟩
  have i2 := hI.out 0 w1 w2 i1 hk2
  have k2 : Below b w w2 := k1.trans hk2.below
  replace h1 := Box.mk h1
  replace i1 := Box.mk i1
  go_wp2_with fail
  go_loopw [16] (fun i wr => Below b w wr ∧ ∃ j : Nat, j ≤ n ∧ i = .int .i64 j ∧ Bld wr b (bs ++ compactL n ++ catF F 0 (l.take j)) ∧ I j wr) (fun i _ => n - (intOf i).toNat)
  case atStart => exact ⟨k2, 0, Nat.zero_le _, rfl, by rw [List.take_zero]; simpa [catF] using h2, i2⟩
  case round =>
    obtain ⟨hbr, j, hj, rfl, hbd, hi⟩ := hrel
    have hlt0 := hbd.lt
    by_cases hlt : j < n
    · have hlt' : (j : Int) < (n : Int) := by omega
      have hjl : j < l.length := by rw [← hl.out]; exact hlt
      have hx : l[j]? = some l[j] := List.getElem?_eq_getElem hjl
      have hmem := List.getElem_mem hjl
      obtain ⟨b0, o, rfl, hb0', hr⟩ := SL.elem keyC_length hS.out hx
      have R1 : rowOf wr b0 (o + j * 32) 32 = some (keyC l[j]) := by rw [rowOf_congr (hbr.block b0 (by omega)), rowOf_congr (hW.out.block b0 hb0')]; exact hr
      have s1 : b0 < wr.heap.size := by omega
      have hcs := catF_succ (F := F) hx
      have hcl2 : (catF F 0 (l.take j)).length ≤ 40 * 64 := by
        have := catF_length hFl.out (l.take j) 0
        rw [List.length_take] at this
        have h3 : min j l.length * 64 ≤ 40 * 64 := Nat.mul_le_mul_right _ (by omega)
        omega
      generalize l[j] = v at *
      have hBa : Below wr.heap.size wr (wr.alloc (.cells (keyC v).toArray 38)) := (Below.refl _ _).alloc (Nat.le_refl _) _
      have hV : rowOf (wr.alloc (.cells (keyC v).toArray 38)) wr.heap.size 0 32 = some (keyC v) := rowOf_alloc_new _ _ _ _ _ _ rfl (keyC_length v)
      have hcall := hF j v (wr.alloc (.cells (keyC v).toArray 38)) (bs ++ compactL n ++ catF F 0 (l.take j)) hmem (hbd.below hBa) (hI.out j wr _ hi (Kp.of hBa (Nat.le_of_lt hlt0))) (by simp only [List.length_append]; omega)
      have hbr2 : Below b w (wr.alloc (.cells (keyC v).toArray 38)) := hbr.trans (hBa.mono (Nat.le_of_lt hlt0))
      rw [List.append_assoc _ _ (F j v), ← hcs] at hcall
      replace hcs := Box.mk hcs
      replace hbd := Box.mk hbd
      replace hi := Box.mk hi
      replace hcall := Box.mk hcall
      replace hx := Box.mk hx
      replace hr := Box.mk hr
      replace hmem := Box.mk hmem
      go_wp2_with fail
      generalize wr.alloc (.cells (keyC v).toArray 38) = w3 at *
      refine hcall.out.mono ?_
      rintro e w4 ⟨rfl, h4, hi4, hb4⟩
      replace h4 := Box.mk h4
      replace hi4 := Box.mk hi4
      go_wp2
      go_roundw
      case rel => exact ⟨hbr2.trans hb4, j + 1, by omega, by go_num, h4.out, hi4.out⟩
      case measure => simp [intOf]; omega
    · obtain rfl : j = n := by omega
      have ht : l.take j = l := by rw [hl.out, List.take_length]
      rw [ht] at hbd
      replace hbd := Box.mk hbd
      replace hi := Box.mk hi
      replace ht := Box.mk ht
      go_wp2
      go_end0
      exact ⟨rfl, hbd.out, hi.out, hbr⟩

end Go.Proofs.Ytahkiabpjfcfdaa
