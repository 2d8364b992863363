/- TreeFull: a tree with as many notes as there may be takes no more; with one fewer it takes one. -/
import Derived.Test.YtabikhmaiennpaaTreeQ
import Derived.Test.YtabikhmaiennpaaTreeParts
namespace Go.Proofs.Ytabikhmaiennpaa
open Go.RowKit
set_option linter.unusedVariables false
set_option linter.unusedSimpArgs false
set_option maxRecDepth 100000

structure P3V where
  l : List Key
  h : l.length = 3
@[irreducible] def p3C (a : P3V) : List Value := rows keyC a.l
@[go_sem] theorem p3C_length (a : P3V) : (p3C a).length = 96 := by unfold p3C; rw [rows_length keyC_length, a.h]
@[go_sem] theorem p3C_row (a : P3V) : isRow 96 (p3C a) = true := by unfold p3C; have := rowsKey_row a.l; rw [a.h] at this; exact this
def P3 (w : World) (b : Nat) (a : P3V) : Prop := w.heap[b]? = some (.cells (p3C a).toArray 24 (0, 0))
theorem P3.lt {w : World} {b : Nat} {a : P3V} (h : P3 w b a) : b < w.heap.size := (Array.getElem?_eq_some_iff.1 h).1
theorem P3.below {w w' : World} {b : Nat} {a : P3V} (h : P3 w b a) (hb : Below w.heap.size w w') : P3 w' b a := keepBlock hb h
theorem P3.row {w : World} {b : Nat} {a : P3V} (h : P3 w b a) : rowOf w b 0 96 = some (p3C a) := by
  rw [rowOf_block h 0 96 (by simp [p3C_length])]
  congr 1; simp
  exact List.take_of_length_le (by rw [p3C_length]; exact Nat.le_refl _)
theorem P3.part {w : World} {b : Nat} {a : P3V} (h : P3 w b a) {i : Nat} {k : Key} (hi : a.l[i]? = some k) : rowOf w b (i * 32) 32 = some (keyC k) := by
  have hlt : i < 3 := by have := (List.getElem?_eq_some_iff.1 hi).1; rw [a.h] at this; exact this
  have := rowOf_sub h.row (i * 32) 32 (by omega)
  rw [Nat.zero_add] at this
  rw [this]
  unfold p3C
  rw [rows_elem keyC_length hi]
def build1tTo (P : Program) (w : World) (u : Value) : Result Next := (do pure (.value (← Instr.build 28 #[(0, u)])) : Sem Next).run P w
theorem build1_tree (ρ : Operand → Value) (dst : Option Tmp) (x : Operand) (t : TypeId) (pos : String) (after : Array Edge) (guard : Option (Nat × Bool)) (w : World) :
    (execOp ρ ⟨dst, .build 28 #[(0, x)], t, pos, after, guard⟩).run Try.prog w = build1tTo Try.prog w (ρ x) := by
  simp [execOp, build1tTo]
def fullT : TreeV := ⟨4294967294, List.replicate 32 zeroKey, by simp⟩
theorem run_build1t (w : World) : (Instr.build 28 #[(0, Value.int .u32 4294967294)]).run Try.prog w = .ok (.agg (treeC fullT).toArray) w := by kernel_rfl
@[go_sem] theorem build1tTo_lit (w : World) : build1tTo Try.prog w (.int .u32 4294967294) = .ok (.value (.agg (treeC fullT).toArray)) w := by
  unfold build1tTo
  rw [Sem.run_bind, run_build1t]
  rfl
theorem full_bit : bitB 4294967294 0 = false := by unfold bitB; decide
theorem putT_full (l : List Key) (hl : l.length = 32) (k : Key) : (putT ⟨4294967294, l, hl⟩ k).count = 4294967295 ∧ (putT ⟨4294967294, l, hl⟩ k).l[0]? = some k := by
  refine ⟨putT_count _ _, ?_⟩
  rw [putT_l]
  show (upL 4294967294 32 0 k l)[0]? = _
  rw [upL, full_bit, if_neg (by decide), List.getElem?_set, if_pos rfl, if_pos (by omega)]

attribute [local irreducible] Int.lt Int.le
attribute [local go_sem ↓] load_key store_key alloc_key build0_key eq_key load_a33 store_a33 alloc_a33 load_tree store_tree alloc_tree build0_tree build1_key two_key build1_tree eq_tree
attribute [local go_sem] rowOf_drew canPut_drew canPut_alloc_old canPut_alloc_new setCells_alloc_new treeC_g0
set_option maxHeartbeats 4000000 in
theorem treeFull_walk (ps : P3V) (k : Key) (W : World) : Calls Try.prog 3 #[.agg (p3C ps).toArray, .agg (keyC k).toArray] W (Gives (.bool true) W) := by
  obtain ⟨q1, q2, q3, hz, hB⟩ := three W (p3C ps).toArray (keyC k).toArray (treeC fullT).toArray 24 23 28
  have hP0 : P3 _ W.heap.size ps := q1
  have hK0 : KB _ (W.heap.size + 1) k := q2
  have hT0 : TB _ (W.heap.size + 1 + 1) fullT := q3
  clear q1 q2 q3
  replace hP0 := Box.mk hP0
  replace hK0 := Box.mk hK0
  replace hT0 := Box.mk hT0
  replace hB := Box.mk hB
  replace hz := Box.mk hz
  go_enter Try.func3, Try.ntmps3
  go_wp2_with fail
  generalize ((W.alloc (.cells (p3C ps).toArray 24)).alloc (.cells (keyC k).toArray 23)).alloc (.cells (treeC fullT).toArray 28) = w0 at *
  obtain ⟨s, hs⟩ : ∃ s, W.heap.size = s := ⟨_, rfl⟩
  rw [hs] at hP0 hK0 hT0 ⊢
  replace hs := Box.mk hs
  go_loopw [6] (fun i wr => Below W.heap.size W wr ∧ ∃ (j : Nat) (l : List Key) (hl : l.length = 32), j ≤ 32 ∧ i = .int .i64 j ∧ P3 wr s ps ∧ KB wr (s + 1) k ∧ TB wr (s + 1 + 1) ⟨4294967294, l, hl⟩) (fun i _ => 32 - (intOf i).toNat)
  case atStart => exact ⟨hB.out, 1, List.replicate 32 zeroKey, by simp, by decide, rfl, hP0.out, hK0.out, hT0.out⟩
  case round =>
    obtain ⟨hb, j, l, hl, hj, rfl, hP, hK, hT⟩ := hrel
    by_cases hj2 : j < 32
    · have hjl : (j : Int) < 32 := by omega
      obtain ⟨m, hm, hm1, hm2⟩ : ∃ m : Nat, m < 3 ∧ (j : Int) % 3 = (m : Int) ∧ (j : Int).tmod 3 = (m : Int) := ⟨j % 3, Nat.mod_lt _ (by decide), by simp, by rw [Int.tmod_eq_emod_of_nonneg (by omega)]; simp⟩
      have hml : (m : Int) < 3 := by omega
      obtain ⟨p, hp⟩ : ∃ p, ps.l[m]? = some p := ⟨_, List.getElem?_eq_getElem (by rw [ps.h]; exact hm)⟩
      have r0 := hP.part hp
      have lP := hP.lt
      have lT := hT.lt
      have cT := hT.can (1 + j * 32) 32 (by omega)
      have hT2 := Box.mk (hT.put hj2 p)
      have hP2 : Box (P3 (wr.setCells (s + 1 + 1) (1 + j * 32) (keyC p)) s ps) := Box.mk ((setCells_ne (by omega) _ _).trans hP)
      have hK2 : Box (KB (wr.setCells (s + 1 + 1) (1 + j * 32) (keyC p)) (s + 1) k) := Box.mk ((setCells_ne (by omega) _ _).trans hK)
      have hB2 := Box.mk (below_setCells (B := W.heap.size) (b := s + 1 + 1) (by have := hs.out; omega) (keyC p) (1 + j * 32) _ _ hb)
      replace hP := Box.mk hP
      replace hK := Box.mk hK
      replace hT := Box.mk hT
      replace hb := Box.mk hb
      replace hp := Box.mk hp
      go_wp2
      go_roundw
      case rel => exact ⟨hB2.out, j + 1, l.set j p, by rw [List.length_set]; exact hl, by omega, by go_num, hP2.out, hK2.out, hT2.out⟩
      case measure => simp [intOf]; omega
    · obtain rfl : j = 32 := by omega
      obtain ⟨t, ht⟩ : ∃ t : TreeV, (⟨4294967294, l, hl⟩ : TreeV) = t := ⟨_, rfl⟩
      have hct : t.count = 4294967294 := by rw [← ht]
      have hpf := putT_full l hl k
      rw [ht] at hT hpf
      have hap := append_any t k wr (by omega)
      obtain ⟨u, hu⟩ : ∃ u : TreeV, putT t k = u := ⟨_, rfl⟩
      rw [hu] at hap hpf
      obtain ⟨hu1, hu2⟩ := hpf
      have rT := hT.row
      have rK := hK.row
      have lT := hT.lt
      have lK := hK.lt
      replace hP := Box.mk hP
      replace hb := Box.mk hb
      replace hT := Box.mk hT
      replace hK := Box.mk hK
      replace hap := Box.mk hap
      replace hu := Box.mk hu
      replace hu1 := Box.mk hu1
      replace hu2 := Box.mk hu2
      replace ht := Box.mk ht
      replace hct := Box.mk hct
      go_wp2_with fail
      refine hap.out.mono ?_
      rintro e w1 ⟨rfl, b1⟩
      unfold valT
      have b2 := b1.alloc b1.size (.cells (treeC u).toArray 28)
      have hU2 : TB (w1.alloc (.cells (treeC u).toArray 28)) w1.heap.size u := heap_alloc_new w1 _
      have hT2 := hT.out.below b2
      have hK2 := hK.out.below b2
      have hB2 := hb.out.trans (b2.mono hb.out.size)
      replace b1 := Box.mk b1
      replace b2 := Box.mk b2
      replace hU2 := Box.mk hU2
      replace hT2 := Box.mk hT2
      replace hK2 := Box.mk hK2
      replace hB2 := Box.mk hB2
      clear rT rK lT lK
      have hfl := fun w => append_full u k w hu1.out
      replace hfl := Box.mk hfl
      obtain ⟨ub, hub⟩ : ∃ n, w1.heap.size = n := ⟨_, rfl⟩
      rw [hub] at hU2
      have rU := hU2.out.row
      have rT := hT2.out.row
      have rK := hK2.out.row
      have lU := hU2.out.lt
      have lT := hT2.out.lt
      have lK := hK2.out.lt
      go_wp2_with fail
      generalize w1.alloc (.cells (treeC u).toArray 28) = w2 at *
      replace hub := Box.mk hub
      clear rU rT rK lU lT lK
      refine (hfl.out w2).mono ?_
      rintro e w3 ⟨rfl, b3⟩
      unfold valT
      have b4 := b3.alloc b3.size (.cells (treeC zeroTree).toArray 28)
      have hV4 : TB (w3.alloc (.cells (treeC zeroTree).toArray 28)) w3.heap.size zeroTree := heap_alloc_new w3 _
      have hT4 := hT2.out.below b4
      have hK4 := hK2.out.below b4
      have hU4 := hU2.out.below b4
      have hB4 := hB2.out.trans (b4.mono hB2.out.size)
      obtain ⟨vb, hvb⟩ : ∃ n, w3.heap.size = n := ⟨_, rfl⟩
      rw [hvb] at hV4
      have rT := hT4.row
      have rK := hK4.row
      have lT := hT4.lt
      have lK := hK4.lt
      have hz4 : (w3.alloc (.cells (treeC zeroTree).toArray 28)).heap.size = vb + 1 := by simp [hvb]
      replace hz4 := Box.mk hz4
      replace b3 := Box.mk b3
      replace b4 := Box.mk b4
      replace hV4 := Box.mk hV4
      replace hT4 := Box.mk hT4
      replace hK4 := Box.mk hK4
      replace hU4 := Box.mk hU4
      replace hB4 := Box.mk hB4
      go_wp2_with fail
      generalize w3.alloc (.cells (treeC zeroTree).toArray 28) = w4 at *
      replace hvb := Box.mk hvb
      clear rT rK lT lK
      have hS : KL (w4.alloc (.cells (rows keyC [k, k]).toArray 23)) (some ⟨w4.heap.size, 0, none⟩) 2 [k, k] := SL.new keyC_length w4 [k, k] _ _ rfl (by unfold maxLen; simp)
      have b5 : Below w4.heap.size w4 (w4.alloc (.cells (rows keyC [k, k]).toArray 23)) := (Below.refl _ _).alloc (Nat.le_refl _) _
      rw [hz4.out] at hS
      refine (all_full t _ 2 [k, k] _ hS (by simp) (by rw [hct.out]; decide) (by rw [hct.out]; show 4294967295 < 4294967294 + 2; decide)).mono ?_
      rintro e w6 ⟨rfl, b6⟩
      unfold valT
      have b7 := (b5.trans (b6.mono b5.size))
      have b8 := b7.alloc b7.size (.cells (treeC zeroTree).toArray 28)
      have hX8 : TB (w6.alloc (.cells (treeC zeroTree).toArray 28)) w6.heap.size zeroTree := heap_alloc_new w6 _
      have hK8 := hK4.out.below b8
      have hU8 := hU4.out.below b8
      have hV8 := hV4.out.below b8
      have hB8 := hB4.out.trans (b8.mono hB4.out.size)
      obtain ⟨xb, hxb⟩ : ∃ n, w6.heap.size = n := ⟨_, rfl⟩
      rw [hxb] at hX8
      have hX8' := hX8
      replace hS := Box.mk hS
      replace b5 := Box.mk b5
      replace b6 := Box.mk b6
      replace b7 := Box.mk b7
      replace b8 := Box.mk b8
      replace hX8 := Box.mk hX8'
      clear hX8'
      have rX := hX8.out.row
      have rV := hV8.row
      have rK := hK8.row
      have pU := hU8.part hu2.out
      obtain ⟨cU, fU⟩ := hU8.count
      rw [hu1.out] at cU
      have lX := hX8.out.lt
      have lV := hV8.lt
      have lK := hK8.lt
      have lU := hU8.lt
      replace hK8 := Box.mk hK8
      replace hU8 := Box.mk hU8
      replace hV8 := Box.mk hV8
      replace hB8 := Box.mk hB8
      go_wp2_with fail
      generalize w6.alloc (.cells (treeC zeroTree).toArray 28) = w8 at *
      refine (shown07_any w8).mono ?_
      rintro e w9 ⟨rfl, b9⟩
      have bf := hB8.out.trans (b9.mono hB8.out.size)
      go_wp2
      go_ret
      exact gives_bool rfl bf
end Go.Proofs.Ytabikhmaiennpaa
