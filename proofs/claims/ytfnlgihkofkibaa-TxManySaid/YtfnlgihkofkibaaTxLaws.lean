/- Layer 5: what is heavy; a coinbase; what is shown. -/
import Derived.Test.YtfnlgihkofkibaaEnc3
import Derived.Test.YtfnlgihkofkibaaLawEnd
import Derived.Test.YtfnlgihkofkibaaKey1
namespace Go.Proofs.Ytfnlgihkofkibaa
open Go.RowKit
set_option linter.unusedVariables false
set_option linter.unusedSimpArgs false
set_option maxRecDepth 100000
attribute [local irreducible] Int.lt Int.le
attribute [local go_sem ↓] load_key store_key alloc_key build0_key eq_key load_point store_point alloc_point load_out store_out alloc_out load_tx store_tx alloc_tx build0_tx
attribute [local go_sem] rowOf_drew rowOf_alloc_old rowOf_alloc_new canPut_drew canPut_alloc_old canPut_alloc_new setCells_alloc_new

def heavyB (t : TxV) : Bool := decide (60 < t.ins.len) || decide (60 < t.outs.len) || decide (60 < t.nulls.len) || decide (60 < t.notes.len)
set_option maxHeartbeats 1000000 in
theorem heavy_any (t : TxV) (W : World) : Calls Try.prog 11 #[.agg (txC t).toArray] W (Gives (.bool (heavyB t)) W) := by
  have hB0 : Below W.heap.size W (W.alloc (.cells (txC t).toArray 29)) := (Below.refl _ _).alloc (Nat.le_refl _) _
  by_cases h1 : 60 < t.ins.len
  · have hE : heavyB t = true := by unfold heavyB; simp [h1]
    have h1' : (60 : Int) < t.ins.len := by omega
    rw [hE]
    replace hE := Box.mk hE
    go_enter Try.func11, Try.ntmps11
    go_wp2
    go_ret
    exact gives_bool rfl hB0
  · have h1' : ¬ (60 : Int) < t.ins.len := by omega
    by_cases h2 : 60 < t.outs.len
    · have hE : heavyB t = true := by unfold heavyB; simp [h2]
      have h2' : (60 : Int) < t.outs.len := by omega
      rw [hE]
      replace hE := Box.mk hE
      go_enter Try.func11, Try.ntmps11
      go_wp2
      go_ret
      exact gives_bool rfl hB0
    · have h2' : ¬ (60 : Int) < t.outs.len := by omega
      by_cases h3 : 60 < t.nulls.len
      · have hE : heavyB t = true := by unfold heavyB; simp [h3]
        have h3' : (60 : Int) < t.nulls.len := by omega
        rw [hE]
        replace hE := Box.mk hE
        go_enter Try.func11, Try.ntmps11
        go_wp2
        go_ret
        exact gives_bool rfl hB0
      · have h3' : ¬ (60 : Int) < t.nulls.len := by omega
        have hE : heavyB t = decide ((60 : Int) < t.notes.len) := by
          unfold heavyB; simp only [h1, h2, h3, decide_false, Bool.false_or]
          rw [Bool.eq_iff_iff, decide_eq_true_eq, decide_eq_true_eq]; omega
        rw [hE]
        replace hE := Box.mk hE
        go_enter Try.func11, Try.ntmps11
        go_wp2
        go_ret
        exact gives_bool rfl hB0

/-! ### What Encode gives -/
theorem encV_cases (d : TxD) : (manyB d = true ∧ encV d = ([], 51)) ∨ (manyB d = false ∧ d.nulls.length = 0 ∧ ¬ d.anchor = zeroKey ∧ encV d = ([], 1)) ∨ (manyB d = false ∧ ¬ (d.nulls.length = 0 ∧ ¬ d.anchor = zeroKey) ∧ encV d = (encB d, 0)) := by
  cases hm : manyB d
  · by_cases hz : d.nulls.length = 0 ∧ ¬ d.anchor = zeroKey
    · exact .inr (.inl ⟨rfl, hz.1, hz.2, by unfold encV; rw [hm, if_neg (by simp), if_pos hz]⟩)
    · exact .inr (.inr ⟨rfl, hz, by unfold encV; rw [hm, if_neg (by simp), if_neg hz]⟩)
  · exact .inl ⟨rfl, by unfold encV; rw [hm, if_pos rfl]⟩
theorem manyB_false {d : TxD} (h : manyB d = false) : d.ins.length ≤ 40 ∧ d.outs.length ≤ 40 ∧ d.nulls.length ≤ 40 ∧ d.notes.length ≤ 40 := by
  unfold manyB at h
  simp only [Bool.or_eq_false_iff, decide_eq_false_iff_not] at h
  omega
theorem flat_length {α : Type} (f : α → List UInt8) (m : Nat) (hf : ∀ x, (f x).length = m) : ∀ (l : List α) (i : Nat), (catF (fun _ x => f x) i l).length = l.length * m
  | [], _ => by simp [catF]
  | x :: l, i => by rw [catF, List.length_append, hf, flat_length f m hf l, List.length_cons, Nat.add_mul]; omega
theorem compactL_one {n : Nat} (h : n ≤ 40) : (compactL n).length = 1 := by rw [compactL_length, if_pos (by omega)]
theorem nulls_length (a : Key) : ∀ (l : List Key), (catF (fun i k => (if i = 0 then a.val else []) ++ k.val) 0 l).length = l.length * 32 + (if l.length = 0 then 0 else 32) := by
  intro l
  cases l with
  | nil => rfl
  | cons k l =>
    have h : ∀ (l : List Key) (i : Nat), (catF (fun i (k : Key) => (if i = 0 then a.val else []) ++ k.val) (i + 1) l).length = l.length * 32 := by
      intro l
      induction l with
      | nil => intro i; rfl
      | cons x l ih => intro i; rw [catF, List.length_append, if_neg (by omega), List.nil_append, x.property, ih, List.length_cons]; omega
    rw [catF, List.length_append, if_pos rfl, List.length_append, a.property, k.property, h, List.length_cons, if_neg (by omega)]; omega
theorem encB_length {d : TxD} (h : manyB d = false) : (encB d).length = 16 + 36 * d.ins.length + 40 * d.outs.length + 32 * d.nulls.length + 32 * d.notes.length + (if d.nulls.length = 0 then 0 else 32) := by
  obtain ⟨h1, h2, h3, h4⟩ := manyB_false h
  unfold encB
  simp only [List.length_append, le_length, compactL_one h1, compactL_one h2, compactL_one h3, compactL_one h4]
  rw [flat_length ptB 36 ptB_length, flat_length outB 40 outB_length, flat_length (fun k : Key => k.val) 32 (fun k => k.property)]
  have := nulls_length d.anchor d.nulls
  split at this <;> split <;> omega

/-! ### A transaction of which only the height is written out -/
def buildTxTo (P : Program) (w : World) (u : Value) : Result Next := (do pure (.value (← Instr.build 29 #[(0, u)])) : Sem Next).run P w
theorem build1_tx (ρ : Operand → Value) (dst : Option Tmp) (x : Operand) (t : TypeId) (pos : String) (after : Array Edge) (guard : Option (Nat × Bool)) (w : World) :
    (execOp ρ ⟨dst, .build 29 #[(0, x)], t, pos, after, guard⟩).run Try.prog w = buildTxTo Try.prog w (ρ x) := by simp [execOp, buildTxTo]
def tx1 : TxV := ⟨1, .nil, .nil, zeroKey, .nil, .nil, 0⟩
theorem run_build_tx1 (w : World) : (Instr.build 29 #[(0, Value.int .u32 1)]).run Try.prog w = .ok (.agg (txC tx1).toArray) w := by kernel_rfl
@[go_sem] theorem buildTxTo_1 (w : World) : buildTxTo Try.prog w (.int .u32 1) = .ok (.value (.agg (txC tx1).toArray)) w := by
  unfold buildTxTo
  rw [Sem.run_bind, run_build_tx1]
  rfl
def txd1 : TxD := ⟨1, [], [], zeroKey, [], [], 0⟩
theorem tx1_L (w : World) : TxL w tx1 txd1 := ⟨SL.nil _ _ _, SL.nil _ _ _, SL.nil _ _ _, SL.nil _ _ _, (fun p h => nomatch h), (fun p h => nomatch h), ⟨rfl, by decide, by decide⟩, rfl, ⟨rfl, by decide, by decide⟩⟩
theorem enc_tx1 : encV txd1 = ([1, 0, 0, 0, 0, 0, 0, 0, 0, 0, 0, 0, 0, 0, 0, 0], 0) := by
  unfold encV encB
  decide +kernel

attribute [local go_sem ↓] build1_tx
set_option maxHeartbeats 1000000 in
theorem shown05 (W : World) : Calls Try.prog 12 #[] W (Gives (.bool true) W) := by
  have hc := encode_any tx1 txd1 W (tx1_L W)
  rw [enc_tx1] at hc
  go_enter Try.func12, Try.ntmps12
  go_wp2_with fail
  refine hc.mono ?_
  rintro e w1 ⟨rfl, hb1⟩
  unfold valE
  go_wp2
  go_ret
  exact gives_bool rfl hb1

set_option maxHeartbeats 2000000 in
theorem txSizes_walk (t : TxV) (d : TxD) (W : World) (h : TxL W t d) : Calls Try.prog 3 #[.agg (txC t).toArray] W (LawEnd W) := by
  have hB0 : Below W.heap.size W (W.alloc (.cells (txC t).toArray 29)) := (Below.refl _ _).alloc (Nat.le_refl _) _
  have hH0 : (W.alloc (.cells (txC t).toArray 29)).heap[W.heap.size]? = some (.cells (txC t).toArray 29 (0, 0)) := heap_alloc_new W _
  have hs0 : (W.alloc (.cells (txC t).toArray 29)).heap.size = W.heap.size + 1 := by simp
  have e1 := Box.mk h.ins.1
  have e2 := Box.mk h.outs.1
  have e3 := Box.mk h.nulls.1
  have e4 := Box.mk h.notes.1
  have hrow : ∀ w', w'.heap[W.heap.size]? = some (.cells (txC t).toArray 29 (0, 0)) → rowOf w' W.heap.size 0 38 = some (txC t) := fun w' hw => by
    rw [rowOf_block hw 0 38 (by simp [txC_length])]
    congr 1; simp
    exact List.take_of_length_le (by rw [txC_length]; exact Nat.le_refl _)
  replace h := Box.mk h
  cases hh : heavyB t
  · go_enter Try.func3, Try.ntmps3
    go_wp2_with fail
    refine (heavy_any t _).mono ?_
    rintro e w1 ⟨rfl, hb1⟩
    rw [hh]
    generalize W.alloc (.cells (txC t).toArray 29) = w0 at *
    have W1 := hB0.trans (hb1.mono hB0.size)
    have H1 : w1.heap[W.heap.size]? = some (.cells (txC t).toArray 29 (0, 0)) := by rw [hb1.block _ (by omega)]; exact hH0
    clear hb1 hH0 hs0
    go_wp2_with fail
    refine (shown05 w1).mono ?_
    rintro e w2 ⟨rfl, hb2⟩
    have H2 : w2.heap[W.heap.size]? = some (.cells (txC t).toArray 29 (0, 0)) := by rw [hb2.block _ (Array.getElem?_eq_some_iff.1 H1).1]; exact H1
    have W2 := W1.trans (hb2.mono W1.size)
    have R2 := hrow _ H2
    have s2 := (Array.getElem?_eq_some_iff.1 H2).1
    clear H1
    go_wp2_with fail
    refine (encode_any t d w2 (h.out.below W2)).mono ?_
    rintro e w3 ⟨rfl, hb3⟩
    have H3 : w3.heap[W.heap.size]? = some (.cells (txC t).toArray 29 (0, 0)) := by rw [hb3.block _ s2]; exact H2
    have W3 := W2.trans (hb3.mono W2.size)
    clear R2 s2 H2
    unfold valE
    rcases encV_cases d with ⟨hm, hE⟩ | ⟨hm, _, _, hE⟩ | ⟨hm, _, hE⟩
    · rw [hE]
      replace hE := Box.mk hE
      go_wp2
      go_ret
      exact gives_bool rfl W3
    · rw [hE]
      replace hE := Box.mk hE
      go_wp2
      go_ret
      exact gives_bool rfl W3
    · rw [hE]
      have hL := encB_length hm
      obtain ⟨m1, m2, m3, m4⟩ := manyB_false hm
      rw [← e1.out, ← e2.out, ← e3.out, ← e4.out] at hL
      rw [← e1.out] at m1
      rw [← e2.out] at m2
      rw [← e3.out] at m3
      rw [← e4.out] at m4
      replace hE := Box.mk hE
      obtain ⟨t0, t1, t2, t3, t4, t5, t6, t7⟩ := tx_all H3
      clear t1 t4 t7
      generalize encB d = s at *
      by_cases hn : t.nulls.len = 0
      · rw [if_pos hn] at hL
        have hn' : ¬ (0 : Int) < t.nulls.len := by omega
        replace hn := Box.mk hn
        have hLi : (s.length : Int) = 5 + 36 * t.ins.len + 1 + 40 * t.outs.len + 1 + 32 * t.nulls.len + 1 + 32 * t.notes.len + 8 := by omega
        replace hL := Box.mk hL
        go_wp2
        go_ret
        exact gives_bool rfl W3
      · rw [if_neg hn] at hL
        have hn' : (0 : Int) < t.nulls.len := by omega
        replace hn := Box.mk hn
        have hLi : (s.length : Int) = 5 + 36 * t.ins.len + 1 + 40 * t.outs.len + 1 + 32 * t.nulls.len + 1 + 32 * t.notes.len + 8 + 32 := by omega
        replace hL := Box.mk hL
        go_wp2
        go_ret
        exact gives_bool rfl W3
  · go_enter Try.func3, Try.ntmps3
    go_wp2_with fail
    refine (heavy_any t _).mono ?_
    rintro e w1 ⟨rfl, hb1⟩
    rw [hh]
    have W1 := hB0.trans (hb1.mono hB0.size)
    go_wp2_with fail
    refine (shown05 w1).mono ?_
    rintro e w2 ⟨rfl, hb2⟩
    go_wp2
    go_ret
    exact gives_bool rfl (W1.trans (hb2.mono W1.size))

end Go.Proofs.Ytfnlgihkofkibaa
