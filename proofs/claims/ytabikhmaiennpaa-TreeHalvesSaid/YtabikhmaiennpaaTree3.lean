/- Package tree: Append, All, Of; what is shown. -/
import Derived.Test.YtabikhmaiennpaaTree2
import Derived.Test.YtabikhmaiennpaaKey1
import Derived.Test.YtabikhmaiennpaaKeys
namespace Go.Proofs.Ytabikhmaiennpaa
open Go.RowKit
set_option linter.unusedVariables false
set_option linter.unusedSimpArgs false
set_option maxRecDepth 100000
attribute [local irreducible] Int.lt Int.le
attribute [local go_sem ↓] load_key store_key alloc_key build0_key eq_key load_a33 store_a33 alloc_a33 load_tree store_tree alloc_tree build0_tree build1_key
attribute [local go_sem] rowOf_drew canPut_drew canPut_alloc_old canPut_alloc_new setCells_alloc_new

theorem treeC_g0 (t : TreeV) (h : 0 < (treeC t).length) : (treeC t)[0] = .int .u32 t.count := Option.some.inj ((List.getElem?_eq_getElem h).symm.trans (by unfold treeC; rfl))
attribute [local go_sem] treeC_g0
def valT (r : TreeV × Int) : Value := .tuple #[.agg (treeC r.1).toArray, .int .i64 r.2]
theorem putT_count (t : TreeV) (x : Key) : (putT t x).count = t.count + 1 := by unfold putT; rfl
theorem row_put_tree {w : World} {b : Nat} {t : TreeV} (h : TB w b t) (t' : TreeV) : rowOf (w.setCells b 0 (treeC t')) b 0 1025 = some (treeC t') :=
  rowOf_of_rangeAt (World.rangeAt_setCells_same w b 0 (treeC t') (by rw [treeC_length]; exact canPut_there.1 (h.can 0 1025 (by omega)))) (treeC_length _)
theorem three (W : World) (a b c : Array Value) (ta tb tc : TypeId) :
    let w := ((W.alloc (.cells a ta)).alloc (.cells b tb)).alloc (.cells c tc)
    w.heap[W.heap.size]? = some (.cells a ta (0, 0)) ∧ w.heap[W.heap.size + 1]? = some (.cells b tb (0, 0)) ∧ w.heap[W.heap.size + 1 + 1]? = some (.cells c tc (0, 0)) ∧ w.heap.size = W.heap.size + 1 + 1 + 1 ∧ Below W.heap.size W w := by
  intro w
  have z1 : (W.alloc (.cells a ta)).heap.size = W.heap.size + 1 := by simp
  have z2 : ((W.alloc (.cells a ta)).alloc (.cells b tb)).heap.size = W.heap.size + 1 + 1 := by simp
  have q1 := heap_alloc_new W (.cells a ta)
  have q2 := heap_alloc_new (W.alloc (.cells a ta)) (.cells b tb)
  have q3 := heap_alloc_new ((W.alloc (.cells a ta)).alloc (.cells b tb)) (.cells c tc)
  rw [z1] at q2
  rw [z2] at q3
  have k : ∀ (w1 : World) (o : Obj) {b : Nat} {x : Obj}, w1.heap[b]? = some x → (w1.alloc o).heap[b]? = some x := fun w1 o b x h => keepBlock ((Below.refl _ _).alloc (Nat.le_refl _) _) h
  exact ⟨k _ _ (k _ _ q1), k _ _ q2, q3, by show (((W.alloc (.cells a ta)).alloc (.cells b tb)).alloc (.cells c tc)).heap.size = _; simp, (((Below.refl _ _).alloc (Nat.le_refl _) _).alloc (by simp) _).alloc (by simp; omega) _⟩

set_option maxHeartbeats 4000000 in
/-- Append: there is room. -/
theorem append_any (t : TreeV) (k : Key) (W : World) (hc : t.count + 1 < 4294967296) : Calls Try.prog 8 #[.agg (treeC t).toArray, .agg (keyC k).toArray] W (Gives (valT (putT t k, 0)) W) := by
  obtain ⟨q1, q2, q3, hz, hB⟩ := three W (treeC t).toArray (keyC k).toArray (treeC zeroTree).toArray 28 23 28
  have hT0 : TB _ W.heap.size t := q1
  have hK0 : KB _ (W.heap.size + 1) k := q2
  have hR0 : TB _ (W.heap.size + 1 + 1) zeroTree := q3
  clear q1 q2 q3
  go_enter Try.func8, Try.ntmps8
  have hne : ((t.count : Int) == 4294967295) = false := by rw [beq_eq_false_iff_ne]; omega
  have l1 := hT0.lt
  have l2 := hK0.lt
  have r2 := hK0.row
  have hput := put_any hT0 k hc
  replace hT0 := Box.mk hT0
  replace hK0 := Box.mk hK0
  replace hR0 := Box.mk hR0
  replace hB := Box.mk hB
  replace hz := Box.mk hz
  replace hput := Box.mk hput
  go_wp2_with fail
  generalize ((W.alloc (.cells (treeC t).toArray 28)).alloc (.cells (keyC k).toArray 23)).alloc (.cells (treeC zeroTree).toArray 28) = w0 at *
  refine hput.out.mono ?_
  rintro e w1 ⟨rfl, hT1, hO⟩
  have hR1 : TB w1 (W.heap.size + 1 + 1) zeroTree := hO.keep hR0.out (by omega)
  have hB1 := hO.mono hB.out (Nat.le_refl _)
  have r1 := hT1.row
  have l3 := hT1.lt
  have l4 := hR1.lt
  have p4 := hR1.can 0 1025 (by omega)
  have rf := row_put_tree hR1 (putT t k)
  have bf := Box.mk (below_setCells (B := W.heap.size) (b := W.heap.size + 1 + 1) (by omega) (treeC (putT t k)) 0 _ _ hB1)
  generalize putT t k = t2 at *
  replace rf := Box.mk rf
  replace hT1 := Box.mk hT1
  replace hR1 := Box.mk hR1
  replace hO := Box.mk hO
  replace hB1 := Box.mk hB1
  clear l1 l2 r2
  go_wp2_with fail
  refine bodyPost_ret (v := valT (t2, 0)) (res2 Try.results8 (res_tree (b := W.heap.size + 1 + 1) (o := 0) (by simp [go_sem]) rf.out) (v2 := .int .i64 0) (by simp [oneRes]; try rfl)) rfl ?_
  exact gives rfl bf.out

set_option maxHeartbeats 4000000 in
/-- Append: it is full. -/
theorem append_full (t : TreeV) (k : Key) (W : World) (hc : t.count = 4294967295) : Calls Try.prog 8 #[.agg (treeC t).toArray, .agg (keyC k).toArray] W (Gives (valT (zeroTree, 2)) W) := by
  obtain ⟨q1, q2, q3, hz, hB⟩ := three W (treeC t).toArray (keyC k).toArray (treeC zeroTree).toArray 28 23 28
  have hT0 : TB _ W.heap.size t := q1
  have hR0 : TB _ (W.heap.size + 1 + 1) zeroTree := q3
  clear q1 q2 q3
  go_enter Try.func8, Try.ntmps8
  have hne : ((t.count : Int) == 4294967295) = true := by rw [hc]; rfl
  have p4 := hR0.can 0 1025 (by omega)
  have rf := hR0.row
  have bf := Box.mk hB
  replace hc := Box.mk hc
  replace hT0 := Box.mk hT0
  replace hR0 := Box.mk hR0
  replace hB := Box.mk hB
  replace hz := Box.mk hz
  replace rf := Box.mk rf
  go_wp2_with fail
  refine bodyPost_ret (v := valT (zeroTree, 2)) (res2 Try.results8 (res_tree (b := W.heap.size + 1 + 1) (o := 0) (by simp [go_sem]) rf.out) (v2 := .int .i64 2) (by simp [oneRes]; try rfl)) rfl ?_
  exact gives rfl bf.out

/-- Notes put one by one. -/
def putsT (t : TreeV) (l : List Key) : TreeV := l.foldl putT t
theorem putsT_count : ∀ (l : List Key) (t : TreeV), (putsT t l).count = t.count + l.length
  | [], t => rfl
  | x :: l, t => by
    show (putsT (putT t x) l).count = _
    rw [putsT_count l, putT_count, List.length_cons]; omega
theorem putsT_snoc (t : TreeV) (l : List Key) (x : Key) : putsT t (l ++ [x]) = putT (putsT t l) x := by unfold putsT; rw [List.foldl_append]; rfl
theorem two (W : World) (a b : Array Value) (ta tb : TypeId) :
    let w := (W.alloc (.cells a ta)).alloc (.cells b tb)
    w.heap[W.heap.size]? = some (.cells a ta (0, 0)) ∧ w.heap[W.heap.size + 1]? = some (.cells b tb (0, 0)) ∧ w.heap.size = W.heap.size + 1 + 1 ∧ Below W.heap.size W w := by
  intro w
  have z1 : (W.alloc (.cells a ta)).heap.size = W.heap.size + 1 := by simp
  have q1 := heap_alloc_new W (.cells a ta)
  have q2 := heap_alloc_new (W.alloc (.cells a ta)) (.cells b tb)
  rw [z1] at q2
  exact ⟨keepBlock ((Below.refl _ _).alloc (Nat.le_refl _) _) q1, q2, by show ((W.alloc (.cells a ta)).alloc (.cells b tb)).heap.size = _; simp, ((Below.refl _ _).alloc (Nat.le_refl _) _).alloc (by simp) _⟩

set_option maxHeartbeats 4000000 in
/-- All: there is room. -/
theorem all_any (t : TreeV) (a : Option Addr) (cap : Nat) (l : List Key) (W : World) (h : KL W a cap l) (hl : l.length ≤ 2000) (hc : t.count + l.length ≤ 4294967295) :
    Calls Try.prog 9 #[.agg (treeC t).toArray, .slice a l.length cap] W (Gives (valT (putsT t l, 0)) W) := by
  obtain ⟨q1, q2, hz, hB⟩ := two W (treeC t).toArray (treeC zeroTree).toArray 28 28
  have hT0 : TB _ W.heap.size t := q1
  have hR0 : TB _ (W.heap.size + 1) zeroTree := q2
  clear q1 q2
  have hsub : ((4294967295 : Int) - (t.count : Int)) % 4294967296 = 4294967295 - t.count := by omega
  have hlm : (l.length : Int) % 18446744073709551616 = l.length := by omega
  have hge : ¬ ((4294967295 : Int) - t.count < l.length) := by omega
  have hge2 : ¬ (((4294967295 : Int) - t.count) % 18446744073709551616 < l.length) := by omega
  have hcap := h.2.1
  replace h := Box.mk h
  replace hT0 := Box.mk hT0
  replace hR0 := Box.mk hR0
  replace hB := Box.mk hB
  replace hz := Box.mk hz
  go_enter Try.func9, Try.ntmps9
  go_wp2_with fail
  generalize (W.alloc (.cells (treeC t).toArray 28)).alloc (.cells (treeC zeroTree).toArray 28) = w0 at *
  obtain ⟨s, hs⟩ : ∃ s, W.heap.size = s := ⟨_, rfl⟩
  rw [hs] at hT0 hR0 ⊢
  replace hs := Box.mk hs
  go_loopw [19] (fun i wr => Below W.heap.size W wr ∧ ∃ j : Nat, j ≤ l.length ∧ i = .int .i64 j ∧ TB wr s (putsT t (l.take j)) ∧ TB wr (s + 1) zeroTree) (fun i _ => l.length - (intOf i).toNat)
  case atStart => exact ⟨hB.out, 0, Nat.zero_le _, rfl, hT0.out, hR0.out⟩
  case round =>
    obtain ⟨hb, j, hj, rfl, hT, hR⟩ := hrel
    by_cases hlt : j < l.length
    · have hlt' : (j : Int) < l.length := by omega
      obtain ⟨x, hx⟩ : ∃ x, l[j]? = some x := ⟨_, List.getElem?_eq_getElem hlt⟩
      obtain ⟨bk, o, hae, hbk, hr⟩ := h.out.at hx
      have R1 : rowOf wr bk (o + j * 32) 32 = some (keyC x) := by rw [rowOf_congr (hb.block bk hbk)]; exact hr
      have hbkw : bk < wr.heap.size := Nat.lt_of_lt_of_le hbk hb.size
      have hbA : Below wr.heap.size wr (wr.alloc (.cells (keyC x).toArray 23)) := (Below.refl _ _).alloc (Nat.le_refl _) _
      have hTA := hT.below hbA
      have hRA := hR.below hbA
      have hKA : KB (wr.alloc (.cells (keyC x).toArray 23)) wr.heap.size x := heap_alloc_new wr _
      have hnext : putsT t (l.take (j + 1)) = putT (putsT t (l.take j)) x := by rw [List.take_add_one, hx]; exact putsT_snoc _ _ _
      have hcnt : (putsT t (l.take j)).count + 1 < 4294967296 := by rw [putsT_count, List.length_take]; omega
      have hput := put_any hTA x hcnt
      have hBW := hb.trans (hbA.mono hb.size)
      have rK := hKA.row
      have lK := hKA.lt
      subst hae
      replace h := Box.mk h.out
      replace hx := Box.mk hx
      replace hr := Box.mk hr
      replace hb := Box.mk hb
      replace hT := Box.mk hT
      replace hR := Box.mk hR
      replace hbA := Box.mk hbA
      replace hTA := Box.mk hTA
      replace hRA := Box.mk hRA
      replace hKA := Box.mk hKA
      replace hnext := Box.mk hnext
      replace hcnt := Box.mk hcnt
      replace hput := Box.mk hput
      replace hBW := Box.mk hBW
      go_wp2_with fail
      refine hput.out.mono ?_
      rintro e w5 ⟨rfl, hT5, hO⟩
      have hR5 := Box.mk (hO.keep hRA.out (by omega))
      have hB5 := Box.mk (hO.mono hBW.out (by rw [hs.out]; exact Nat.le_refl _))
      rw [← hnext.out] at hT5
      replace hT5 := Box.mk hT5
      replace hO := Box.mk hO
      clear R1 hbkw rK lK
      go_wp2
      go_roundw
      case rel => exact ⟨hB5.out, j + 1, by omega, by go_num, hT5.out, hR5.out⟩
      case measure => simp [intOf]; omega
    · obtain rfl : j = l.length := by omega
      rw [List.take_length] at hT
      have r1 := hT.row
      have l3 := hT.lt
      have l4 := hR.lt
      have p4 := hR.can 0 1025 (by omega)
      have rf := row_put_tree hR (putsT t l)
      have bf := Box.mk (below_setCells (B := W.heap.size) (b := s + 1) (by have := hs.out; omega) (treeC (putsT t l)) 0 _ _ hb)
      generalize putsT t l = t2 at *
      replace rf := Box.mk rf
      replace hT := Box.mk hT
      replace hR := Box.mk hR
      replace hb := Box.mk hb
      go_wp2_with fail
      refine bodyPost_ret (v := valT (t2, 0)) (res2 Try.results9 (res_tree (b := s + 1) (o := 0) (by simp [go_sem]) rf.out) (v2 := .int .i64 0) (by simp [oneRes]; try rfl)) rfl ?_
      exact gives rfl bf.out
end Go.Proofs.Ytabikhmaiennpaa
