/- Layer 5: the document's Encode. (printed by mkref5.py) -/
import Derived.Test.YtahkiabpjfcfdaaBase2
import Derived.Test.YtahkiabpjfcfdaaBase
namespace Go.Proofs.Ytahkiabpjfcfdaa
open Go.RowKit
set_option linter.unusedVariables false
set_option linter.unusedSimpArgs false
set_option maxRecDepth 100000

theorem putL_4 (n : Nat) : putL n 4 = le 4 n := putL_nat n 4 (by omega) (by omega)
theorem putL_8 (n : Nat) : putL n 8 = le 8 n := putL_nat n 8 (by omega) (by omega)
theorem flat_succ {α : Type} (f : α → List UInt8) {l : List α} {j : Nat} {x : α} (cur : List UInt8) (h : l[j]? = some x) : cur ++ (l.take (j + 1)).flatMap f = (cur ++ (l.take j).flatMap f) ++ f x := by
  rw [List.take_add_one, h]; simp
theorem flat_le {α : Type} (f : α → List UInt8) (hf : ∀ x, (f x).length ≤ 64) : ∀ (l : List α), (l.flatMap f).length ≤ l.length * 64
  | [] => by simp
  | x :: l => by have := flat_le f hf l; have := hf x; rw [List.flatMap_cons, List.length_append, List.length_cons]; omega
theorem flat_le40 {α : Type} (f : α → List UInt8) (hf : ∀ x, (f x).length ≤ 64) {l : List α} {n j : Nat} (hl : l.length = n) (hn : n ≤ 40) : ((l.take j).flatMap f).length ≤ 2560 := by
  have := flat_le f hf (l.take j)
  rw [List.length_take] at this
  omega
theorem catF_nulls (A : List UInt8) (l : List Key) : catF (fun i (k : Key) => (if i = 0 then A else []) ++ k.val) 0 l = (if l.length = 0 then [] else A) ++ l.flatMap (fun k => k.val) := by
  cases l with
  | nil => rfl
  | cons k l =>
    have h : ∀ (l : List Key) (i : Nat), catF (fun i (k : Key) => (if i = 0 then A else []) ++ k.val) (i + 1) l = l.flatMap (fun k => k.val) := by
      intro l
      induction l with
      | nil => intro i; rfl
      | cons x l ih => intro i; rw [catF, if_neg (by omega), List.nil_append, ih, List.flatMap_cons]
    rw [catF, if_pos rfl, h, if_neg (by simp), List.flatMap_cons, List.append_assoc]
theorem tx_block {w w' : World} {b : Nat} {t : TxV} {ty : TypeId} (h : w.heap[b]? = some (.cells (txC t).toArray ty (0, 0))) (hs : Below w.heap.size w w') : w'.heap[b]? = some (.cells (txC t).toArray ty (0, 0)) := keepBlock hs h

attribute [local irreducible] Int.lt Int.le
attribute [local go_sem] sB_append le_length putL_4 putL_8
attribute [local go_sem ↓] load_key store_key alloc_key build0_key eq_key load_point store_point alloc_point load_out store_out alloc_out load_tx store_tx alloc_tx
attribute [local go_sem] rowOf_drew rowOf_alloc_old rowOf_alloc_new canPut_drew canPut_alloc_old canPut_alloc_new setCells_alloc_new
set_option maxHeartbeats 8000000 in
theorem refEncode_any (t : TxV) (d : TxD) (W : World) (h : TxL W t d) : Calls Try.prog 44 #[.agg (txC t).toArray] W (Gives (valE (encV d)) W) := by
  have hB0 : Below W.heap.size W (W.alloc (.cells (txC t).toArray 41)) := (Below.refl _ _).alloc (Nat.le_refl _) _
  have hH0 : (W.alloc (.cells (txC t).toArray 41)).heap[W.heap.size]? = some (.cells (txC t).toArray 41 (0, 0)) := heap_alloc_new W _
  have e1 := h.ins.1
  have e2 := h.outs.1
  have e3 := h.nulls.1
  have e4 := h.notes.1
  have hexp := h.exp
  have hbal := h.bal
  have hanc := h.anchor
  have L := Box.mk (h.below hB0)
  replace h := Box.mk h
  by_cases hm : manyB d = true
  · have hE : encV d = ([], 51) := by unfold encV; rw [hm, if_pos rfl]
    rw [hE]
    have key : ((40 : Int) < t.ins.len) ∨ (¬ (40 : Int) < t.ins.len ∧ (40 : Int) < t.outs.len) ∨ (¬ (40 : Int) < t.ins.len ∧ ¬ (40 : Int) < t.outs.len ∧ (40 : Int) < t.nulls.len) ∨ (¬ (40 : Int) < t.ins.len ∧ ¬ (40 : Int) < t.outs.len ∧ ¬ (40 : Int) < t.nulls.len ∧ (40 : Int) < t.notes.len) := by
      unfold manyB at hm
      simp only [Bool.or_eq_true, decide_eq_true_eq] at hm
      omega
    replace e1 := Box.mk e1
    replace e2 := Box.mk e2
    replace e3 := Box.mk e3
    replace e4 := Box.mk e4
    replace hm := Box.mk hm
    replace hE := Box.mk hE
    replace hexp := Box.mk hexp
    replace hbal := Box.mk hbal
    replace hanc := Box.mk hanc
    clear hH0
    rcases key with k1 | ⟨k1, k2⟩ | ⟨k1, k2, k3⟩ | ⟨k1, k2, k3, k4⟩
    all_goals
      go_enter Try.func44, Try.ntmps44
      go_wp2
      go_ret2
      exact gives rfl hB0
  · have hm1 : manyB d = false := by simpa using hm
    obtain ⟨m1, m2, m3, m4⟩ : t.ins.len ≤ 40 ∧ t.outs.len ≤ 40 ∧ t.nulls.len ≤ 40 ∧ t.notes.len ≤ 40 := by
      have := hm1
      unfold manyB at this
      simp only [Bool.or_eq_false_iff, decide_eq_false_iff_not] at this
      omega
    have k1 : ¬ (40 : Int) < t.ins.len := by omega
    have k2 : ¬ (40 : Int) < t.outs.len := by omega
    have k3 : ¬ (40 : Int) < t.nulls.len := by omega
    have k4 : ¬ (40 : Int) < t.notes.len := by omega
    by_cases hz : d.nulls.length = 0 ∧ ¬ (d.anchor = zeroKey)
    · have hE : encV d = ([], 1) := by unfold encV; rw [hm1, if_neg (by simp), if_pos hz]
      rw [hE]
      have hn0 : t.nulls.len = 0 := by rw [e3]; exact hz.1
      have ha : (t.anchor == zeroKey) = false := by rw [hanc]; simpa using hz.2
      have hA : rowOf (W.alloc (.cells (txC t).toArray 41)) W.heap.size 3 32 = some (keyC t.anchor) := (tx_all hH0).2.2.2.2.1
      replace e1 := Box.mk e1
      replace e2 := Box.mk e2
      replace e3 := Box.mk e3
      replace e4 := Box.mk e4
      replace hz := Box.mk hz
      replace hE := Box.mk hE
      replace hexp := Box.mk hexp
      replace hbal := Box.mk hbal
      replace hanc := Box.mk hanc
      replace hH0 := Box.mk hH0
      go_enter Try.func44, Try.ntmps44
      go_wp2
      go_ret2
      exact gives rfl hB0
    · have hE : encV d = (encB d, 0) := by unfold encV; rw [hm1, if_neg (by simp), if_neg hz]
      rw [hE]
      have hEB : encB d = le 4 (u64N t.exp) ++ compactL t.ins.len ++ d.ins.flatMap ptB ++ compactL t.outs.len ++ d.outs.flatMap outB ++ compactL t.nulls.len ++ (if t.nulls.len = 0 then [] else t.anchor.val) ++ d.nulls.flatMap (fun k => k.val) ++ compactL t.notes.len ++ d.notes.flatMap (fun k => k.val) ++ le 8 (u64N t.bal) := by
        unfold encB
        rw [catF_plain, catF_plain, catF_nulls, catF_plain, ← e1, ← e2, ← e3, ← e4, hanc, hbal.1, hexp.1, show u64N d.exp = d.exp.toNat from by unfold u64N; omega]
        simp only [List.append_assoc]
      obtain ⟨ex, hex⟩ : ∃ n : Nat, t.exp = n := ⟨t.exp.toNat, by omega⟩
      have hex1 : (ex : Int) < 4294967296 := by omega
      have key : (((t.nulls.len : Int) == 0) = true ∧ (t.anchor == zeroKey) = true) ∨ ((t.nulls.len : Int) == 0) = false := by
        by_cases h0 : d.nulls.length = 0
        · exact .inl ⟨by rw [e3]; simpa using h0, by rw [hanc]; simpa using Decidable.not_not.1 (fun hne => hz ⟨h0, hne⟩)⟩
        · exact .inr (by simp; omega)
      have hA : rowOf (W.alloc (.cells (txC t).toArray 41)) W.heap.size 3 32 = some (keyC t.anchor) := (tx_all hH0).2.2.2.2.1
      have hH := Box.mk hH0
      replace hH0 := Box.mk hH0
      replace e1 := Box.mk e1.symm
      replace e2 := Box.mk e2.symm
      replace e3 := Box.mk e3.symm
      replace e4 := Box.mk e4.symm
      replace hz := Box.mk hz
      replace hE := Box.mk hE
      replace hEB := Box.mk hEB
      replace hexp := Box.mk hexp
      replace hbal := Box.mk hbal
      replace hanc := Box.mk hanc
      obtain ⟨a1, ha1⟩ : ∃ a, t.ins.a = a := ⟨_, rfl⟩
      obtain ⟨a2, ha2⟩ : ∃ a, t.outs.a = a := ⟨_, rfl⟩
      obtain ⟨a3, ha3⟩ : ∃ a, t.nulls.a = a := ⟨_, rfl⟩
      obtain ⟨a4, ha4⟩ : ∃ a, t.notes.a = a := ⟨_, rfl⟩
      have c1 := Box.mk (compactL_le t.ins.len)
      have c2 := Box.mk (compactL_le t.outs.len)
      have c3 := Box.mk (compactL_le t.nulls.len)
      have c4 := Box.mk (compactL_le t.notes.len)
      rcases key with ⟨n0, n1⟩ | n0
      case' inr => have n1 := trivial
      all_goals
        go_enter Try.func44, Try.ntmps44
        go_wp2_with fail
        clear hA
        generalize W.alloc (.cells (txC t).toArray 41) = w0 at *
        obtain ⟨tb, htb⟩ : ∃ b, W.heap.size = b := ⟨_, rfl⟩
        rw [htb] at hH
        rw [htb]
        have htl : tb < w0.heap.size := (Array.getElem?_eq_some_iff.1 hH.out).1
        replace hB0 := Box.mk hB0
        replace htb := Box.mk htb
        obtain ⟨t0, t1, t2, t3, t4, t5, t6, t7⟩ := tx_all hH.out
        rw [ha1] at t2
        clear t3 t4 t5 t6 t7
        rw [hex] at t1
        have g0 : ¬ (9223372036854775807 < 4 + (compactL t.ins.len).length) := by have := c1.out; omega
        have hall : ∀ w', SinceP w0 w' → (tb < w'.heap.size ∧ w'.cell? ⟨tb, 0, none⟩ = some (.int .u32 ex) ∧ w'.cell? ⟨tb, 1, none⟩ = some (.slice a1 t.ins.len t.ins.cap)) := fun w' h =>
          ⟨Nat.lt_of_lt_of_le htl h.out.size, (h.out.cell (p := ⟨tb, 0, none⟩) htl).trans t1, (h.out.cell (p := ⟨tb, 1, none⟩) htl).trans t2⟩
        refine hreg_begin (S := SinceP w0) (by kernel_rfl) (SinceP.refl _).drew (fun hHeld => ?_)
        simp only [List.length_cons, List.length_nil, Nat.zero_add, Nat.reduceAdd, Array.replicate]
        refine hreg_take (i := 0) rfl (by kernel_rfl) (by kernel_rfl) (by kernel_rfl) hreg_panic (by rfl) hHeld ?_
        apply Exists.intro
        refine ⟨fun w' hw' => ?_, ?_⟩
        · have hf := hall w' hw'
          go_simp
          try go_bits
          exact yieldsV_mk rfl
        simp only [Act.put, List.setIfInBounds_toArray, List.set_cons_zero, List.set_cons_succ]
        refine hreg_take (i := 1) rfl (by kernel_rfl) (by kernel_rfl) (by kernel_rfl) hreg_panic (by rfl) hHeld ?_
        apply Exists.intro
        refine ⟨fun w' hw' => ?_, ?_⟩
        · have hf := hall w' hw'
          go_simp
          try go_bits
          exact yieldsV_mk rfl
        simp only [Act.put, List.setIfInBounds_toArray, List.set_cons_zero, List.set_cons_succ]
        refine hreg_take (i := 2) rfl (by kernel_rfl) (by kernel_rfl) (by kernel_rfl) hreg_panic (by rfl) hHeld ?_
        apply Exists.intro
        refine ⟨fun w' hw' => ?_, ?_⟩
        · have hf := hall w' hw'
          go_simp
          try go_bits
          exact yieldsV_mk rfl
        simp only [Act.put, List.setIfInBounds_toArray, List.set_cons_zero, List.set_cons_succ]
        refine hreg_take (i := 4) rfl (by kernel_rfl) (by kernel_rfl) (by kernel_rfl) hreg_panic (by rfl) hHeld ?_
        apply Exists.intro
        refine ⟨fun w' hw' => ?_, ?_⟩
        · have hf := hall w' hw'
          go_simp
          try go_bits
          exact yieldsV_mk rfl
        simp only [Act.put, List.setIfInBounds_toArray, List.set_cons_zero, List.set_cons_succ]
        refine hreg_take (i := 5) rfl (by kernel_rfl) (by kernel_rfl) (by kernel_rfl) hreg_panic (by rfl) hHeld ?_
        apply Exists.intro
        refine ⟨fun w' hw' => ?_, ?_⟩
        · have hf := hall w' hw'
          go_simp
          try go_bits
          exact yieldsV_mk rfl
        simp only [Act.put, List.setIfInBounds_toArray, List.set_cons_zero, List.set_cons_succ]
        refine hreg_take (i := 6) rfl (by kernel_rfl) (by kernel_rfl) (by kernel_rfl) hreg_panic (by rfl) hHeld ?_
        apply Exists.intro
        refine ⟨fun w' hw' => ?_, ?_⟩
        · have hf := hall w' hw'
          go_simp
          try go_bits
          exact yieldsV_mk rfl
        simp only [Act.put, List.setIfInBounds_toArray, List.set_cons_zero, List.set_cons_succ]
        refine hreg_take (i := 7) rfl (by kernel_rfl) (by kernel_rfl) (by kernel_rfl) hreg_panic (by rfl) hHeld ?_
        apply Exists.intro
        refine ⟨fun w' hw' => ?_, ?_⟩
        · have hf := hall w' hw'
          go_simp
          try go_bits
          exact yieldsV_mk rfl
        simp only [Act.put, List.setIfInBounds_toArray, List.set_cons_zero, List.set_cons_succ]
        refine wpAnyH_ready (rs := [3]) (by kernel_rfl) (by simp) ?_
        refine hreg_event (o := _) rfl (by rfl) (fun K hK => ?_) ?_
        · go_simp
          first
            | (go_at_call 67; refine (refPut_any ex 4 _ (by omega)).mono ?_; rintro e wn ⟨rfl, hb⟩)
            | skip
          refine hK.out _ _ ?_ (fun hHeld' => ?_)
          · first
              | exact hHeld.next hb
              | exact hHeld
              | exact hHeld.alloc _
              | exact hHeld.setCell (by simp <;> omega) _
              | exact (hHeld.alloc _).alloc _
          replace hHeld := hHeld'
          clear hHeld' hK K
          simp only [Act.put, List.setIfInBounds_toArray, List.set_cons_zero, List.set_cons_succ]
          refine wpAnyH_ready (rs := [8]) (by kernel_rfl) (by simp) ?_
          refine hreg_event (o := _) rfl (by rfl) (fun K hK => ?_) ?_
          · go_simp
            first
              | (go_at_call 68; refine (refCompact_any t.ins.len _ (by omega)).mono ?_; rintro e wq ⟨rfl, hb⟩)
              | skip
            refine hK.out _ _ ?_ (fun hHeld' => ?_)
            · first
                | exact hHeld.next hb
                | exact hHeld
                | exact hHeld.alloc _
                | exact hHeld.setCell (by simp <;> omega) _
                | exact (hHeld.alloc _).alloc _
            replace hHeld := hHeld'
            clear hHeld' hK K
            simp only [Act.put, List.setIfInBounds_toArray, List.set_cons_zero, List.set_cons_succ]
            refine hreg_take (i := 9) rfl (by kernel_rfl) (by kernel_rfl) (by kernel_rfl) hreg_panic (by rfl) hHeld ?_
            apply Exists.intro
            refine ⟨fun w' hw' => ?_, ?_⟩
            · have hf := hall w' hw'
              go_simp
              try go_bits
              exact yieldsV_mk rfl
            simp only [Act.put, List.setIfInBounds_toArray, List.set_cons_zero, List.set_cons_succ]
            refine hreg_take (i := 10) rfl (by kernel_rfl) (by kernel_rfl) (by kernel_rfl) hreg_panic (by rfl) hHeld ?_
            apply Exists.intro
            refine ⟨fun w' hw' => ?_, ?_⟩
            · have hf := hall w' hw'
              go_simp
              try go_bits
              exact yieldsV_mk rfl
            simp only [Act.put, List.setIfInBounds_toArray, List.set_cons_zero, List.set_cons_succ]
            refine wpAnyH_done (by kernel_rfl) ?_ _
            refine NoPanic.normal ?_
            clear t0 t1 t2 g0 hall
            have hS : Since w0 wq := hHeld.out
            clear hHeld hb
            obtain ⟨s1, hs1⟩ : ∃ s, le 4 ex ++ compactL t.ins.len = s := ⟨_, rfl⟩
            have l1 : s1.length ≤ 100 := by rw [← hs1, List.length_append, le_length]; have := c1.out; omega
            rw [hs1]
            replace hs1 := Box.mk hs1
            replace hS := Box.mk hS
            go_wp2_with fail
            obtain ⟨wl, hwl⟩ : ∃ w : World, w = w0 := ⟨_, rfl⟩
            clear hwl wl
            go_loopw [4, 5] (fun sv x wr => Since w0 wr ∧ ∃ j : Nat, j ≤ t.ins.len ∧ x = .int .i64 j ∧ sv = .string (sB (s1 ++ (d.ins.take j).flatMap ptB))) (fun _ x _ => t.ins.len - (intOf x).toNat)
            case atStart => exact ⟨hS.out, 0, Nat.zero_le _, rfl, by simp⟩
            case round =>
              clear hS
              obtain ⟨hS, j, hj, rfl, rfl⟩ := hrel
              replace hS : Below w0.heap.size w0 wr := hS
              have hHr := keepBlock hS hH.out
              have hlr := hS.size
              obtain ⟨t0, t1, t2, t3, t4, t5, t6, t7⟩ := tx_all hHr
              rw [ha1] at t2
              rw [ha2] at t3
              rw [ha3] at t5
              rw [ha4] at t6
              have htl' : tb < wr.heap.size := by omega
              by_cases hlt : j < t.ins.len
              · have hlt' : (j : Int) < t.ins.len := by omega
                obtain ⟨x, hx⟩ : ∃ x, d.ins[j]? = some x := ⟨_, List.getElem?_eq_getElem (by have := e1.out; omega)⟩
                obtain ⟨bk, o, hae, hbk, hr⟩ := SL.elem pointC_length (L.out.ins.below hS) hx
                rw [ha1] at hae
                subst hae
                have hmem := List.mem_of_getElem? hx
                have hnext := flat_succ ptB s1 hx
                have hql := flat_le40 ptB (fun x => by rw [ptB_length]; omega) (j := j) e1.out m1
                obtain ⟨q, hq⟩ : ∃ q, s1 ++ (d.ins.take j).flatMap ptB = q := ⟨_, rfl⟩
                have hqq : q.length ≤ 30000 := by rw [← hq, List.length_append]; omega
                rw [hq] at hnext
                rw [hq]
                clear hql
                replace hq := Box.mk hq
                replace hx := Box.mk hx
                replace hmem := Box.mk hmem
                replace hHr := Box.mk hHr
                obtain ⟨p1, p2⟩ := pt_row hr
                have hidx := L.out.idx x hmem.out
                obtain ⟨i, hi⟩ : ∃ i : Nat, x.idx = i := ⟨x.idx.toNat, by omega⟩
                rw [hi] at p2
                have hpt : ptB x = x.tx.val ++ le 4 i := by unfold ptB; rw [hi, Int.toNat_natCast]
                rw [hpt] at hnext
                have hk : x.tx.val.length = 32 := x.tx.property
                have hi4 : (i : Int) < 4294967296 := by omega
                have g1 : ¬ (9223372036854775807 < q.length + 32) := by omega
                have g2 : ¬ (9223372036854775807 < q.length + 32 + 4) := by omega
                replace hidx := Box.mk hidx
                replace hi := Box.mk hi
                replace hr := Box.mk hr
                replace hpt := Box.mk hpt
                replace hnext := Box.mk hnext
                replace hS := Box.mk hS
                go_wp2_with fail
                have hall : ∀ w', SinceP wr w' → (tb < w'.heap.size ∧ bk < w'.heap.size ∧ w'.cell? ⟨tb, 1, none⟩ = some (.slice (some ⟨bk, o, none⟩) t.ins.len t.ins.cap) ∧ rowOf w' bk (o + j * 33) 32 = some (keyC x.tx) ∧ w'.cell? ⟨bk, o + j * 33 + 32, none⟩ = some (.int .u32 i)) := fun w' h =>
                  ⟨Nat.lt_of_lt_of_le htl' h.out.size, Nat.lt_of_lt_of_le hbk h.out.size, (h.out.cell (p := ⟨tb, 1, none⟩) htl').trans t2, (rowOf_congr (h.out.block bk hbk) _ _).trans p1, (h.out.cell (p := ⟨bk, o + j * 33 + 32, none⟩) hbk).trans p2⟩
                refine hreg_begin (S := SinceP wr) (by kernel_rfl) (SinceP.refl _).drew (fun hHeld => ?_)
                simp only [List.length_cons, List.length_nil, Nat.zero_add, Nat.reduceAdd, Array.replicate]
                refine hreg_take (i := 0) rfl (by kernel_rfl) (by kernel_rfl) (by kernel_rfl) hreg_panic (by rfl) hHeld ?_
                apply Exists.intro
                refine ⟨fun w' hw' => ?_, ?_⟩
                · have hf := hall w' hw'
                  go_simp
                  try go_bits
                  exact yieldsV_mk rfl
                simp only [Act.put, List.setIfInBounds_toArray, List.set_cons_zero, List.set_cons_succ]
                refine hreg_take (i := 1) rfl (by kernel_rfl) (by kernel_rfl) (by kernel_rfl) hreg_panic (by rfl) hHeld ?_
                apply Exists.intro
                refine ⟨fun w' hw' => ?_, ?_⟩
                · have hf := hall w' hw'
                  go_simp
                  try go_bits
                  exact yieldsV_mk rfl
                simp only [Act.put, List.setIfInBounds_toArray, List.set_cons_zero, List.set_cons_succ]
                refine hreg_take (i := 2) rfl (by kernel_rfl) (by kernel_rfl) (by kernel_rfl) hreg_panic (by rfl) hHeld ?_
                apply Exists.intro
                refine ⟨fun w' hw' => ?_, ?_⟩
                · have hf := hall w' hw'
                  go_simp
                  try go_bits
                  exact yieldsV_mk rfl
                simp only [Act.put, List.setIfInBounds_toArray, List.set_cons_zero, List.set_cons_succ]
                refine hreg_take (i := 3) rfl (by kernel_rfl) (by kernel_rfl) (by kernel_rfl) hreg_panic (by rfl) hHeld ?_
                apply Exists.intro
                refine ⟨fun w' hw' => ?_, ?_⟩
                · have hf := hall w' hw'
                  go_simp
                  try go_bits
                  exact yieldsV_mk rfl
                simp only [Act.put, List.setIfInBounds_toArray, List.set_cons_zero, List.set_cons_succ]
                refine hreg_take (i := 4) rfl (by kernel_rfl) (by kernel_rfl) (by kernel_rfl) hreg_panic (by rfl) hHeld ?_
                apply Exists.intro
                refine ⟨fun w' hw' => ?_, ?_⟩
                · have hf := hall w' hw'
                  go_simp
                  try go_bits
                  exact yieldsV_mk rfl
                simp only [Act.put, List.setIfInBounds_toArray, List.set_cons_zero, List.set_cons_succ]
                refine hreg_take (i := 5) rfl (by kernel_rfl) (by kernel_rfl) (by kernel_rfl) hreg_panic (by rfl) hHeld ?_
                apply Exists.intro
                refine ⟨fun w' hw' => ?_, ?_⟩
                · have hf := hall w' hw'
                  go_simp
                  try go_bits
                  exact yieldsV_mk rfl
                simp only [Act.put, List.setIfInBounds_toArray, List.set_cons_zero, List.set_cons_succ]
                refine hreg_take (i := 6) rfl (by kernel_rfl) (by kernel_rfl) (by kernel_rfl) hreg_panic (by rfl) hHeld ?_
                apply Exists.intro
                refine ⟨fun w' hw' => ?_, ?_⟩
                · have hf := hall w' hw'
                  go_simp
                  try go_bits
                  exact yieldsV_mk rfl
                simp only [Act.put, List.setIfInBounds_toArray, List.set_cons_zero, List.set_cons_succ]
                refine hreg_take (i := 9) rfl (by kernel_rfl) (by kernel_rfl) (by kernel_rfl) hreg_panic (by rfl) hHeld ?_
                apply Exists.intro
                refine ⟨fun w' hw' => ?_, ?_⟩
                · have hf := hall w' hw'
                  go_simp
                  try go_bits
                  exact yieldsV_mk rfl
                simp only [Act.put, List.setIfInBounds_toArray, List.set_cons_zero, List.set_cons_succ]
                refine hreg_take (i := 10) rfl (by kernel_rfl) (by kernel_rfl) (by kernel_rfl) hreg_panic (by rfl) hHeld ?_
                apply Exists.intro
                refine ⟨fun w' hw' => ?_, ?_⟩
                · have hf := hall w' hw'
                  go_simp
                  try go_bits
                  exact yieldsV_mk rfl
                simp only [Act.put, List.setIfInBounds_toArray, List.set_cons_zero, List.set_cons_succ]
                refine hreg_take (i := 11) rfl (by kernel_rfl) (by kernel_rfl) (by kernel_rfl) hreg_panic (by rfl) hHeld ?_
                apply Exists.intro
                refine ⟨fun w' hw' => ?_, ?_⟩
                · have hf := hall w' hw'
                  go_simp
                  try go_bits
                  exact yieldsV_mk rfl
                simp only [Act.put, List.setIfInBounds_toArray, List.set_cons_zero, List.set_cons_succ]
                refine hreg_take (i := 12) rfl (by kernel_rfl) (by kernel_rfl) (by kernel_rfl) hreg_panic (by rfl) hHeld ?_
                apply Exists.intro
                refine ⟨fun w' hw' => ?_, ?_⟩
                · have hf := hall w' hw'
                  go_simp
                  try go_bits
                  exact yieldsV_mk rfl
                simp only [Act.put, List.setIfInBounds_toArray, List.set_cons_zero, List.set_cons_succ]
                refine hreg_take (i := 13) rfl (by kernel_rfl) (by kernel_rfl) (by kernel_rfl) hreg_panic (by rfl) hHeld ?_
                apply Exists.intro
                refine ⟨fun w' hw' => ?_, ?_⟩
                · have hf := hall w' hw'
                  go_simp
                  try go_bits
                  exact yieldsV_mk rfl
                simp only [Act.put, List.setIfInBounds_toArray, List.set_cons_zero, List.set_cons_succ]
                refine hreg_take (i := 14) rfl (by kernel_rfl) (by kernel_rfl) (by kernel_rfl) hreg_panic (by rfl) hHeld ?_
                apply Exists.intro
                refine ⟨fun w' hw' => ?_, ?_⟩
                · have hf := hall w' hw'
                  go_simp
                  try go_bits
                  exact yieldsV_mk rfl
                simp only [Act.put, List.setIfInBounds_toArray, List.set_cons_zero, List.set_cons_succ]
                refine hreg_take (i := 15) rfl (by kernel_rfl) (by kernel_rfl) (by kernel_rfl) hreg_panic (by rfl) hHeld ?_
                apply Exists.intro
                refine ⟨fun w' hw' => ?_, ?_⟩
                · have hf := hall w' hw'
                  go_simp
                  try go_bits
                  exact yieldsV_mk rfl
                simp only [Act.put, List.setIfInBounds_toArray, List.set_cons_zero, List.set_cons_succ]
                refine wpAnyH_ready (rs := [7]) (by kernel_rfl) (by simp) ?_
                refine hreg_event (o := _) rfl (by rfl) (fun K hK => ?_) ?_
                · go_simp
                  first
                    | (go_at_call 66; refine (refBytes_any x.tx _).mono ?_; rintro e wn ⟨rfl, hb⟩)
                    | skip
                  refine hK.out _ _ ?_ (fun hHeld' => ?_)
                  · first
                      | exact hHeld.next hb
                      | exact hHeld
                      | exact hHeld.alloc _
                      | exact hHeld.setCell (by simp <;> omega) _
                      | exact (hHeld.alloc _).alloc _
                  replace hHeld := hHeld'
                  clear hHeld' hK K
                  simp only [Act.put, List.setIfInBounds_toArray, List.set_cons_zero, List.set_cons_succ]
                  refine hreg_take (i := 8) rfl (by kernel_rfl) (by kernel_rfl) (by kernel_rfl) hreg_panic (by rfl) hHeld ?_
                  apply Exists.intro
                  refine ⟨fun w' hw' => ?_, ?_⟩
                  · have hf := hall w' hw'
                    go_simp
                    try go_bits
                    exact yieldsV_mk rfl
                  simp only [Act.put, List.setIfInBounds_toArray, List.set_cons_zero, List.set_cons_succ]
                  refine wpAnyH_ready (rs := [16]) (by kernel_rfl) (by simp) ?_
                  refine hreg_event (o := _) rfl (by rfl) (fun K hK => ?_) ?_
                  · go_simp
                    first
                      | (go_at_call 67; refine (refPut_any i 4 _ (by omega)).mono ?_; rintro e wq ⟨rfl, hb⟩)
                      | skip
                    refine hK.out _ _ ?_ (fun hHeld' => ?_)
                    · first
                        | exact hHeld.next hb
                        | exact hHeld
                        | exact hHeld.alloc _
                        | exact hHeld.setCell (by simp <;> omega) _
                        | exact (hHeld.alloc _).alloc _
                    replace hHeld := hHeld'
                    clear hHeld' hK K
                    simp only [Act.put, List.setIfInBounds_toArray, List.set_cons_zero, List.set_cons_succ]
                    refine hreg_take (i := 17) rfl (by kernel_rfl) (by kernel_rfl) (by kernel_rfl) hreg_panic (by rfl) hHeld ?_
                    apply Exists.intro
                    refine ⟨fun w' hw' => ?_, ?_⟩
                    · have hf := hall w' hw'
                      go_simp
                      try go_bits
                      exact yieldsV_mk rfl
                    simp only [Act.put, List.setIfInBounds_toArray, List.set_cons_zero, List.set_cons_succ]
                    refine hreg_take (i := 18) rfl (by kernel_rfl) (by kernel_rfl) (by kernel_rfl) hreg_panic (by rfl) hHeld ?_
                    apply Exists.intro
                    refine ⟨fun w' hw' => ?_, ?_⟩
                    · have hf := hall w' hw'
                      go_simp
                      try go_bits
                      exact yieldsV_mk rfl
                    simp only [Act.put, List.setIfInBounds_toArray, List.set_cons_zero, List.set_cons_succ]
                    refine wpAnyH_done (by kernel_rfl) ?_ _
                    refine NoPanic.normal ?_
                    have hq2 : Since w0 wq := Below.of hHeld.out hS.out.size hS.out
                    clear hHeld hb hall
                    replace hq2 := Box.mk hq2
                    go_wp2
                    go_roundw
                    case rel => exact ⟨hq2.out, j + 1, by omega, by go_num, by rw [hnext.out]; try simp⟩
                    case measure => simp [intOf]; omega
                  exact AllReadyH.nil
                exact AllReadyH.nil
              · obtain rfl : j = t.ins.len := by omega
                have hge : ¬ (t.ins.len : Int) < t.ins.len := by omega
                rw [List.take_of_length_le (by have := e1.out; omega)]
                have hfl := flat_le ptB (fun x => by rw [ptB_length]; omega) d.ins
                obtain ⟨s2, hs2⟩ : ∃ s, s1 ++ d.ins.flatMap ptB = s := ⟨_, rfl⟩
                have ls2 : s2.length ≤ s1.length + 2560 := by rw [← hs2, List.length_append]; have := e1.out; omega
                rw [hs2]
                clear hfl
                replace hs2 := Box.mk hs2
                replace hHr := Box.mk hHr
                replace hS := Box.mk hS
                have g9 : ¬ (9223372036854775807 < s2.length + (compactL t.outs.len).length) := by have := c2.out; omega
                go_wp2_with fail
                refine (refCompact_any t.outs.len wr (by omega)).mono ?_
                rintro e w2 ⟨rfl, hb2⟩
                have hS2 : Since w0 w2 := Below.of hb2 hS.out.size hS.out
                have hH2 := keepBlock hS2 hH.out
                obtain ⟨y0, y1, y2, y3, y4, y5, y6, y7⟩ := tx_all hH2
                rw [ha1] at y2
                rw [ha2] at y3
                rw [ha3] at y5
                rw [ha4] at y6
                have htl2 : tb < w2.heap.size := (Array.getElem?_eq_some_iff.1 hH2).1
                clear t0 t1 t2 t3 t4 t5 t6 t7 hb2
                replace hH2 := Box.mk hH2
                replace hS2 := Box.mk hS2
                go_wp2_with fail
                clear g9
                obtain ⟨s3, hs3⟩ : ∃ s, s2 ++ compactL t.outs.len = s := ⟨_, rfl⟩
                have l3 : s3.length ≤ 10000 := by rw [← hs3, List.length_append]; have := c2.out; omega
                rw [hs3]
                replace hs3 := Box.mk hs3
                clear y0 y1 y2 y3 y4 y5 y6 y7 htl2 htl' hH2 hHr hS
                have hS := hS2
                clear hS2
                obtain ⟨wl, hwl⟩ : ∃ w : World, w = w0 := ⟨_, rfl⟩
                clear hwl wl
                go_loopw [4, 6] (fun sv x wr => Since w0 wr ∧ ∃ j : Nat, j ≤ t.outs.len ∧ x = .int .i64 j ∧ sv = .string (sB (s3 ++ (d.outs.take j).flatMap outB))) (fun _ x _ => t.outs.len - (intOf x).toNat)
                case atStart => exact ⟨hS.out, 0, Nat.zero_le _, rfl, by simp⟩
                case round =>
                  clear hS
                  obtain ⟨hS, j, hj, rfl, rfl⟩ := hrel
                  replace hS : Below w0.heap.size w0 wr := hS
                  have hHr := keepBlock hS hH.out
                  have hlr := hS.size
                  obtain ⟨t0, t1, t2, t3, t4, t5, t6, t7⟩ := tx_all hHr
                  rw [ha1] at t2
                  rw [ha2] at t3
                  rw [ha3] at t5
                  rw [ha4] at t6
                  have htl' : tb < wr.heap.size := by omega
                  by_cases hlt : j < t.outs.len
                  · have hlt' : (j : Int) < t.outs.len := by omega
                    obtain ⟨x, hx⟩ : ∃ x, d.outs[j]? = some x := ⟨_, List.getElem?_eq_getElem (by have := e2.out; omega)⟩
                    obtain ⟨bk, o, hae, hbk, hr⟩ := SL.elem outC_length (L.out.outs.below hS) hx
                    rw [ha2] at hae
                    subst hae
                    have hmem := List.mem_of_getElem? hx
                    have hnext := flat_succ outB s3 hx
                    have hql := flat_le40 outB (fun x => by rw [outB_length]; omega) (j := j) e2.out m2
                    obtain ⟨q, hq⟩ : ∃ q, s3 ++ (d.outs.take j).flatMap outB = q := ⟨_, rfl⟩
                    have hqq : q.length ≤ 30000 := by rw [← hq, List.length_append]; omega
                    rw [hq] at hnext
                    rw [hq]
                    clear hql
                    replace hq := Box.mk hq
                    replace hx := Box.mk hx
                    replace hmem := Box.mk hmem
                    replace hHr := Box.mk hHr
                    obtain ⟨p1, p2⟩ := out_row hr
                    obtain ⟨U, hU⟩ : ∃ U, u64N x.value = U := ⟨_, rfl⟩
                    have hpt : outB x = le 8 U ++ x.lock.val := by unfold outB; rw [hU]
                    rw [hpt] at hnext
                    have hk : x.lock.val.length = 32 := x.lock.property
                    have g1 : ¬ (9223372036854775807 < q.length + 8) := by omega
                    have g2 : ¬ (9223372036854775807 < q.length + 8 + 32) := by omega
                    have hu := u64N_lt x.value
                    have hu1 := u64N_wrap x.value
                    rw [hU] at hu hu1
                    have hu2 : x.value % 18446744073709551616 = (U : Int) := by rw [← hu1, IntKind.wrap_u64]
                    replace hU := Box.mk hU
                    replace hu := Box.mk hu
                    replace hr := Box.mk hr
                    replace hpt := Box.mk hpt
                    replace hnext := Box.mk hnext
                    replace hS := Box.mk hS
                    go_wp2_with fail
                    have hall : ∀ w', SinceP wr w' → (tb < w'.heap.size ∧ bk < w'.heap.size ∧ w'.cell? ⟨tb, 2, none⟩ = some (.slice (some ⟨bk, o, none⟩) t.outs.len t.outs.cap) ∧ rowOf w' bk (o + j * 33 + 1) 32 = some (keyC x.lock) ∧ w'.cell? ⟨bk, o + j * 33, none⟩ = some (.int .i64 x.value)) := fun w' h =>
                      ⟨Nat.lt_of_lt_of_le htl' h.out.size, Nat.lt_of_lt_of_le hbk h.out.size, (h.out.cell (p := ⟨tb, 2, none⟩) htl').trans t3, (rowOf_congr (h.out.block bk hbk) _ _).trans p1, (h.out.cell (p := ⟨bk, o + j * 33, none⟩) hbk).trans p2⟩
                    refine hreg_begin (S := SinceP wr) (by kernel_rfl) (SinceP.refl _).drew (fun hHeld => ?_)
                    simp only [List.length_cons, List.length_nil, Nat.zero_add, Nat.reduceAdd, Array.replicate]
                    refine hreg_take (i := 0) rfl (by kernel_rfl) (by kernel_rfl) (by kernel_rfl) hreg_panic (by rfl) hHeld ?_
                    apply Exists.intro
                    refine ⟨fun w' hw' => ?_, ?_⟩
                    · have hf := hall w' hw'
                      go_simp
                      try go_bits
                      exact yieldsV_mk rfl
                    simp only [Act.put, List.setIfInBounds_toArray, List.set_cons_zero, List.set_cons_succ]
                    refine hreg_take (i := 1) rfl (by kernel_rfl) (by kernel_rfl) (by kernel_rfl) hreg_panic (by rfl) hHeld ?_
                    apply Exists.intro
                    refine ⟨fun w' hw' => ?_, ?_⟩
                    · have hf := hall w' hw'
                      go_simp
                      try go_bits
                      exact yieldsV_mk rfl
                    simp only [Act.put, List.setIfInBounds_toArray, List.set_cons_zero, List.set_cons_succ]
                    refine hreg_take (i := 2) rfl (by kernel_rfl) (by kernel_rfl) (by kernel_rfl) hreg_panic (by rfl) hHeld ?_
                    apply Exists.intro
                    refine ⟨fun w' hw' => ?_, ?_⟩
                    · have hf := hall w' hw'
                      go_simp
                      try go_bits
                      exact yieldsV_mk rfl
                    simp only [Act.put, List.setIfInBounds_toArray, List.set_cons_zero, List.set_cons_succ]
                    refine hreg_take (i := 3) rfl (by kernel_rfl) (by kernel_rfl) (by kernel_rfl) hreg_panic (by rfl) hHeld ?_
                    apply Exists.intro
                    refine ⟨fun w' hw' => ?_, ?_⟩
                    · have hf := hall w' hw'
                      go_simp
                      try go_bits
                      exact yieldsV_mk rfl
                    simp only [Act.put, List.setIfInBounds_toArray, List.set_cons_zero, List.set_cons_succ]
                    refine hreg_take (i := 4) rfl (by kernel_rfl) (by kernel_rfl) (by kernel_rfl) hreg_panic (by rfl) hHeld ?_
                    apply Exists.intro
                    refine ⟨fun w' hw' => ?_, ?_⟩
                    · have hf := hall w' hw'
                      go_simp
                      try go_bits
                      exact yieldsV_mk rfl
                    simp only [Act.put, List.setIfInBounds_toArray, List.set_cons_zero, List.set_cons_succ]
                    refine hreg_take (i := 5) rfl (by kernel_rfl) (by kernel_rfl) (by kernel_rfl) hreg_panic (by rfl) hHeld ?_
                    apply Exists.intro
                    refine ⟨fun w' hw' => ?_, ?_⟩
                    · have hf := hall w' hw'
                      go_simp
                      try go_bits
                      exact yieldsV_mk rfl
                    simp only [Act.put, List.setIfInBounds_toArray, List.set_cons_zero, List.set_cons_succ]
                    refine hreg_take (i := 6) rfl (by kernel_rfl) (by kernel_rfl) (by kernel_rfl) hreg_panic (by rfl) hHeld ?_
                    apply Exists.intro
                    refine ⟨fun w' hw' => ?_, ?_⟩
                    · have hf := hall w' hw'
                      go_simp
                      try go_bits
                      exact yieldsV_mk rfl
                    simp only [Act.put, List.setIfInBounds_toArray, List.set_cons_zero, List.set_cons_succ]
                    refine hreg_take (i := 7) rfl (by kernel_rfl) (by kernel_rfl) (by kernel_rfl) hreg_panic (by rfl) hHeld ?_
                    apply Exists.intro
                    refine ⟨fun w' hw' => ?_, ?_⟩
                    · have hf := hall w' hw'
                      go_simp
                      try go_bits
                      exact yieldsV_mk rfl
                    simp only [Act.put, List.setIfInBounds_toArray, List.set_cons_zero, List.set_cons_succ]
                    refine hreg_take (i := 10) rfl (by kernel_rfl) (by kernel_rfl) (by kernel_rfl) hreg_panic (by rfl) hHeld ?_
                    apply Exists.intro
                    refine ⟨fun w' hw' => ?_, ?_⟩
                    · have hf := hall w' hw'
                      go_simp
                      try go_bits
                      exact yieldsV_mk rfl
                    simp only [Act.put, List.setIfInBounds_toArray, List.set_cons_zero, List.set_cons_succ]
                    refine hreg_take (i := 11) rfl (by kernel_rfl) (by kernel_rfl) (by kernel_rfl) hreg_panic (by rfl) hHeld ?_
                    apply Exists.intro
                    refine ⟨fun w' hw' => ?_, ?_⟩
                    · have hf := hall w' hw'
                      go_simp
                      try go_bits
                      exact yieldsV_mk rfl
                    simp only [Act.put, List.setIfInBounds_toArray, List.set_cons_zero, List.set_cons_succ]
                    refine hreg_take (i := 12) rfl (by kernel_rfl) (by kernel_rfl) (by kernel_rfl) hreg_panic (by rfl) hHeld ?_
                    apply Exists.intro
                    refine ⟨fun w' hw' => ?_, ?_⟩
                    · have hf := hall w' hw'
                      go_simp
                      try go_bits
                      exact yieldsV_mk rfl
                    simp only [Act.put, List.setIfInBounds_toArray, List.set_cons_zero, List.set_cons_succ]
                    refine hreg_take (i := 13) rfl (by kernel_rfl) (by kernel_rfl) (by kernel_rfl) hreg_panic (by rfl) hHeld ?_
                    apply Exists.intro
                    refine ⟨fun w' hw' => ?_, ?_⟩
                    · have hf := hall w' hw'
                      go_simp
                      try go_bits
                      exact yieldsV_mk rfl
                    simp only [Act.put, List.setIfInBounds_toArray, List.set_cons_zero, List.set_cons_succ]
                    refine hreg_take (i := 14) rfl (by kernel_rfl) (by kernel_rfl) (by kernel_rfl) hreg_panic (by rfl) hHeld ?_
                    apply Exists.intro
                    refine ⟨fun w' hw' => ?_, ?_⟩
                    · have hf := hall w' hw'
                      go_simp
                      try go_bits
                      exact yieldsV_mk rfl
                    simp only [Act.put, List.setIfInBounds_toArray, List.set_cons_zero, List.set_cons_succ]
                    refine hreg_take (i := 15) rfl (by kernel_rfl) (by kernel_rfl) (by kernel_rfl) hreg_panic (by rfl) hHeld ?_
                    apply Exists.intro
                    refine ⟨fun w' hw' => ?_, ?_⟩
                    · have hf := hall w' hw'
                      go_simp
                      try go_bits
                      exact yieldsV_mk rfl
                    simp only [Act.put, List.setIfInBounds_toArray, List.set_cons_zero, List.set_cons_succ]
                    refine wpAnyH_ready (rs := [8]) (by kernel_rfl) (by simp) ?_
                    refine hreg_event (o := _) rfl (by rfl) (fun K hK => ?_) ?_
                    · go_simp
                      first
                        | (go_at_call 67; refine (refPut_any U 8 _ hu.out).mono ?_; rintro e wn ⟨rfl, hb⟩)
                        | skip
                      refine hK.out _ _ ?_ (fun hHeld' => ?_)
                      · first
                          | exact hHeld.next hb
                          | exact hHeld
                          | exact hHeld.alloc _
                          | exact hHeld.setCell (by simp <;> omega) _
                          | exact (hHeld.alloc _).alloc _
                      replace hHeld := hHeld'
                      clear hHeld' hK K
                      simp only [Act.put, List.setIfInBounds_toArray, List.set_cons_zero, List.set_cons_succ]
                      refine hreg_take (i := 9) rfl (by kernel_rfl) (by kernel_rfl) (by kernel_rfl) hreg_panic (by rfl) hHeld ?_
                      apply Exists.intro
                      refine ⟨fun w' hw' => ?_, ?_⟩
                      · have hf := hall w' hw'
                        go_simp
                        try go_bits
                        exact yieldsV_mk rfl
                      simp only [Act.put, List.setIfInBounds_toArray, List.set_cons_zero, List.set_cons_succ]
                      refine wpAnyH_ready (rs := [16]) (by kernel_rfl) (by simp) ?_
                      refine hreg_event (o := _) rfl (by rfl) (fun K hK => ?_) ?_
                      · go_simp
                        first
                          | (go_at_call 66; refine (refBytes_any x.lock _).mono ?_; rintro e wq ⟨rfl, hb⟩)
                          | skip
                        refine hK.out _ _ ?_ (fun hHeld' => ?_)
                        · first
                            | exact hHeld.next hb
                            | exact hHeld
                            | exact hHeld.alloc _
                            | exact hHeld.setCell (by simp <;> omega) _
                            | exact (hHeld.alloc _).alloc _
                        replace hHeld := hHeld'
                        clear hHeld' hK K
                        simp only [Act.put, List.setIfInBounds_toArray, List.set_cons_zero, List.set_cons_succ]
                        refine hreg_take (i := 17) rfl (by kernel_rfl) (by kernel_rfl) (by kernel_rfl) hreg_panic (by rfl) hHeld ?_
                        apply Exists.intro
                        refine ⟨fun w' hw' => ?_, ?_⟩
                        · have hf := hall w' hw'
                          go_simp
                          try go_bits
                          exact yieldsV_mk rfl
                        simp only [Act.put, List.setIfInBounds_toArray, List.set_cons_zero, List.set_cons_succ]
                        refine hreg_take (i := 18) rfl (by kernel_rfl) (by kernel_rfl) (by kernel_rfl) hreg_panic (by rfl) hHeld ?_
                        apply Exists.intro
                        refine ⟨fun w' hw' => ?_, ?_⟩
                        · have hf := hall w' hw'
                          go_simp
                          try go_bits
                          exact yieldsV_mk rfl
                        simp only [Act.put, List.setIfInBounds_toArray, List.set_cons_zero, List.set_cons_succ]
                        refine wpAnyH_done (by kernel_rfl) ?_ _
                        refine NoPanic.normal ?_
                        have hq2 : Since w0 wq := Below.of hHeld.out hS.out.size hS.out
                        clear hHeld hb hall
                        replace hq2 := Box.mk hq2
                        go_wp2
                        go_roundw
                        case rel => exact ⟨hq2.out, j + 1, by omega, by go_num, by rw [hnext.out]; try simp⟩
                        case measure => simp [intOf]; omega
                      exact AllReadyH.nil
                    exact AllReadyH.nil
                  · obtain rfl : j = t.outs.len := by omega
                    have hge : ¬ (t.outs.len : Int) < t.outs.len := by omega
                    rw [List.take_of_length_le (by have := e2.out; omega)]
                    have hfl := flat_le outB (fun x => by rw [outB_length]; omega) d.outs
                    obtain ⟨s4, hs4⟩ : ∃ s, s3 ++ d.outs.flatMap outB = s := ⟨_, rfl⟩
                    have ls4 : s4.length ≤ s3.length + 2560 := by rw [← hs4, List.length_append]; have := e2.out; omega
                    rw [hs4]
                    clear hfl
                    replace hs4 := Box.mk hs4
                    replace hHr := Box.mk hHr
                    replace hS := Box.mk hS
                    have g9 : ¬ (9223372036854775807 < s4.length + (compactL t.nulls.len).length) := by have := c3.out; omega
                    go_wp2_with fail
                    refine (refCompact_any t.nulls.len wr (by omega)).mono ?_
                    rintro e w2 ⟨rfl, hb2⟩
                    have hS2 : Since w0 w2 := Below.of hb2 hS.out.size hS.out
                    have hH2 := keepBlock hS2 hH.out
                    obtain ⟨y0, y1, y2, y3, y4, y5, y6, y7⟩ := tx_all hH2
                    rw [ha1] at y2
                    rw [ha2] at y3
                    rw [ha3] at y5
                    rw [ha4] at y6
                    have htl2 : tb < w2.heap.size := (Array.getElem?_eq_some_iff.1 hH2).1
                    clear t0 t1 t2 t3 t4 t5 t6 t7 hb2
                    replace hH2 := Box.mk hH2
                    replace hS2 := Box.mk hS2
                    rcases Nat.eq_zero_or_pos t.nulls.len with z0 | z0
                    · first
                      | (exfalso; simp at n0; omega)
                      | (skip
                         have zz : ¬ (0 : Int) < t.nulls.len := by omega
                         replace z0 := Box.mk z0
                         go_wp2_with fail
                         clear g9 zz
                         obtain ⟨s5, hs5⟩ : ∃ s, s4 ++ compactL t.nulls.len = s := ⟨_, rfl⟩
                         have l5 : s5.length ≤ 14000 := by rw [← hs5, List.length_append]; have := c3.out; omega
                         rw [hs5]
                         replace hs5 := Box.mk hs5
                         clear hH2 hHr hS
                         have hS := hS2
                         clear hS2
                         obtain ⟨s6, hs6⟩ : ∃ s, s5 ++ (if t.nulls.len = 0 then [] else t.anchor.val) = s := ⟨_, rfl⟩
                         have hs65 : s6 = s5 := by rw [← hs6, if_pos z0.out, List.append_nil]
                         have l6 : s6.length ≤ 14100 := by rw [hs65]; omega
                         rw [← hs65]
                         replace hs65 := Box.mk hs65
                         clear y0 y1 y2 y3 y4 y5 y6 y7 htl2 htl'
                         replace hs6 := Box.mk hs6
                         obtain ⟨wl, hwl⟩ : ∃ w : World, w = w0 := ⟨_, rfl⟩
                         clear hwl wl
                         go_loopw [4, 7] (fun sv x wr => Since w0 wr ∧ ∃ j : Nat, j ≤ t.nulls.len ∧ x = .int .i64 j ∧ sv = .string (sB (s6 ++ (d.nulls.take j).flatMap (fun k : Key => k.val)))) (fun _ x _ => t.nulls.len - (intOf x).toNat)
                         case atStart => exact ⟨hS.out, 0, Nat.zero_le _, rfl, by simp⟩
                         case round =>
                           clear hS
                           obtain ⟨hS, j, hj, rfl, rfl⟩ := hrel
                           replace hS : Below w0.heap.size w0 wr := hS
                           have hHr := keepBlock hS hH.out
                           have hlr := hS.size
                           obtain ⟨t0, t1, t2, t3, t4, t5, t6, t7⟩ := tx_all hHr
                           rw [ha1] at t2
                           rw [ha2] at t3
                           rw [ha3] at t5
                           rw [ha4] at t6
                           have htl' : tb < wr.heap.size := by omega
                           by_cases hlt : j < t.nulls.len
                           · have hlt' : (j : Int) < t.nulls.len := by omega
                             obtain ⟨x, hx⟩ : ∃ x, d.nulls[j]? = some x := ⟨_, List.getElem?_eq_getElem (by have := e3.out; omega)⟩
                             obtain ⟨bk, o, hae, hbk, hr⟩ := SL.elem keyC_length (L.out.nulls.below hS) hx
                             rw [ha3] at hae
                             subst hae
                             have hmem := List.mem_of_getElem? hx
                             have hnext := flat_succ (fun k : Key => k.val) s6 hx
                             have hql := flat_le40 (fun k : Key => k.val) (fun x => by rw [x.property]; omega) (j := j) e3.out m3
                             obtain ⟨q, hq⟩ : ∃ q, s6 ++ (d.nulls.take j).flatMap (fun k : Key => k.val) = q := ⟨_, rfl⟩
                             have hqq : q.length ≤ 30000 := by rw [← hq, List.length_append]; omega
                             rw [hq] at hnext
                             rw [hq]
                             clear hql
                             replace hq := Box.mk hq
                             replace hx := Box.mk hx
                             replace hmem := Box.mk hmem
                             replace hHr := Box.mk hHr
                             exfalso
                             have := z0.out
                             omega
                           · obtain rfl : j = t.nulls.len := by omega
                             have hge : ¬ (t.nulls.len : Int) < t.nulls.len := by omega
                             rw [List.take_of_length_le (by have := e3.out; omega)]
                             have hfl := flat_le (fun k : Key => k.val) (fun x => by rw [x.property]; omega) d.nulls
                             obtain ⟨s7, hs7⟩ : ∃ s, s6 ++ d.nulls.flatMap (fun k : Key => k.val) = s := ⟨_, rfl⟩
                             have ls7 : s7.length ≤ s6.length + 2560 := by rw [← hs7, List.length_append]; have := e3.out; omega
                             rw [hs7]
                             clear hfl
                             replace hs7 := Box.mk hs7
                             replace hHr := Box.mk hHr
                             replace hS := Box.mk hS
                             have g9 : ¬ (9223372036854775807 < s7.length + (compactL t.notes.len).length) := by have := c4.out; omega
                             go_wp2_with fail
                             refine (refCompact_any t.notes.len wr (by omega)).mono ?_
                             rintro e w2 ⟨rfl, hb2⟩
                             have hS2 : Since w0 w2 := Below.of hb2 hS.out.size hS.out
                             have hH2 := keepBlock hS2 hH.out
                             obtain ⟨y0, y1, y2, y3, y4, y5, y6, y7⟩ := tx_all hH2
                             rw [ha1] at y2
                             rw [ha2] at y3
                             rw [ha3] at y5
                             rw [ha4] at y6
                             have htl2 : tb < w2.heap.size := (Array.getElem?_eq_some_iff.1 hH2).1
                             clear t0 t1 t2 t3 t4 t5 t6 t7 hb2
                             replace hH2 := Box.mk hH2
                             replace hS2 := Box.mk hS2
                             go_wp2_with fail
                             clear g9
                             obtain ⟨s8, hs8⟩ : ∃ s, s7 ++ compactL t.notes.len = s := ⟨_, rfl⟩
                             have l8 : s8.length ≤ 18000 := by rw [← hs8, List.length_append]; have := c4.out; omega
                             rw [hs8]
                             replace hs8 := Box.mk hs8
                             clear y0 y1 y2 y3 y4 y5 y6 y7 htl2 htl' hH2 hHr hS
                             have hS := hS2
                             clear hS2
                             obtain ⟨wl, hwl⟩ : ∃ w : World, w = w0 := ⟨_, rfl⟩
                             clear hwl wl
                             go_loopw [4, 8] (fun sv x wr => Since w0 wr ∧ ∃ j : Nat, j ≤ t.notes.len ∧ x = .int .i64 j ∧ sv = .string (sB (s8 ++ (d.notes.take j).flatMap (fun k : Key => k.val)))) (fun _ x _ => t.notes.len - (intOf x).toNat)
                             case atStart => exact ⟨hS.out, 0, Nat.zero_le _, rfl, by simp⟩
                             case round =>
                               clear hS
                               obtain ⟨hS, j, hj, rfl, rfl⟩ := hrel
                               replace hS : Below w0.heap.size w0 wr := hS
                               have hHr := keepBlock hS hH.out
                               have hlr := hS.size
                               obtain ⟨t0, t1, t2, t3, t4, t5, t6, t7⟩ := tx_all hHr
                               rw [ha1] at t2
                               rw [ha2] at t3
                               rw [ha3] at t5
                               rw [ha4] at t6
                               have htl' : tb < wr.heap.size := by omega
                               by_cases hlt : j < t.notes.len
                               · have hlt' : (j : Int) < t.notes.len := by omega
                                 obtain ⟨x, hx⟩ : ∃ x, d.notes[j]? = some x := ⟨_, List.getElem?_eq_getElem (by have := e4.out; omega)⟩
                                 obtain ⟨bk, o, hae, hbk, hr⟩ := SL.elem keyC_length (L.out.notes.below hS) hx
                                 rw [ha4] at hae
                                 subst hae
                                 have hmem := List.mem_of_getElem? hx
                                 have hnext := flat_succ (fun k : Key => k.val) s8 hx
                                 have hql := flat_le40 (fun k : Key => k.val) (fun x => by rw [x.property]; omega) (j := j) e4.out m4
                                 obtain ⟨q, hq⟩ : ∃ q, s8 ++ (d.notes.take j).flatMap (fun k : Key => k.val) = q := ⟨_, rfl⟩
                                 have hqq : q.length ≤ 30000 := by rw [← hq, List.length_append]; omega
                                 rw [hq] at hnext
                                 rw [hq]
                                 clear hql
                                 replace hq := Box.mk hq
                                 replace hx := Box.mk hx
                                 replace hmem := Box.mk hmem
                                 replace hHr := Box.mk hHr
                                 have hk : x.val.length = 32 := x.property
                                 have g1 : ¬ (9223372036854775807 < q.length + 32) := by omega
                                 replace hnext := Box.mk hnext
                                 replace hS := Box.mk hS
                                 go_wp2_with fail
                                 refine (refBytes_any x wr).mono ?_
                                 rintro e w2 ⟨rfl, hb2⟩
                                 have hq2 : Since w0 w2 := Below.of hb2 hS.out.size hS.out
                                 replace hq2 := Box.mk hq2
                                 clear hb2
                                 go_wp2
                                 go_roundw
                                 case rel => exact ⟨hq2.out, j + 1, by omega, by go_num, by rw [hnext.out]⟩
                                 case measure => simp [intOf]; omega
                               · obtain rfl : j = t.notes.len := by omega
                                 have hge : ¬ (t.notes.len : Int) < t.notes.len := by omega
                                 rw [List.take_of_length_le (by have := e4.out; omega)]
                                 have hfl := flat_le (fun k : Key => k.val) (fun x => by rw [x.property]; omega) d.notes
                                 obtain ⟨s9, hs9⟩ : ∃ s, s8 ++ d.notes.flatMap (fun k : Key => k.val) = s := ⟨_, rfl⟩
                                 have ls9 : s9.length ≤ s8.length + 2560 := by rw [← hs9, List.length_append]; have := e4.out; omega
                                 rw [hs9]
                                 clear hfl
                                 replace hs9 := Box.mk hs9
                                 replace hHr := Box.mk hHr
                                 replace hS := Box.mk hS
                                 rw [hbal.out.1] at t7
                                 have gg : ¬ (9223372036854775807 < s9.length + 8) := by omega
                                 go_wp2_with fail
                                 rw [u64N_wrap]
                                 refine (refPut_any (u64N d.bal) 8 wr (u64N_lt _)).mono ?_
                                 rintro e w2 ⟨rfl, hb2⟩
                                 have hS2 : Since w0 w2 := Below.of hb2 hS.out.size hS.out
                                 have hfin : Below W.heap.size W w2 := hB0.out.trans (Below.mono hS2 (by have := hB0.out.size; omega))
                                 have hall9 : s9 ++ le 8 (u64N d.bal) = encB d := by
                                   rw [hEB.out, ← hs9.out, ← hs8.out, ← hs7.out, ← hs6.out, ← hs5.out, ← hs4.out, ← hs3.out, ← hs2.out, ← hs1.out, hex, hbal.out.1, show u64N (ex : Int) = ex from by unfold u64N; omega]
                                 clear hb2 t0 t1 t2 t3 t4 t5 t6 t7
                                 replace hall9 := Box.mk hall9
                                 replace hfin := Box.mk hfin
                                 replace hS2 := Box.mk hS2
                                 go_wp2
                                 go_ret2
                                 exact gives (by rw [← hall9.out]; rfl) hfin.out)
                    · first
                      | (exfalso; simp at n0; omega)
                      | (skip
                         have zz : (0 : Int) < t.nulls.len := by omega
                         go_wp2_with fail
                         clear g9 zz
                         obtain ⟨s5, hs5⟩ : ∃ s, s4 ++ compactL t.nulls.len = s := ⟨_, rfl⟩
                         have l5 : s5.length ≤ 14000 := by rw [← hs5, List.length_append]; have := c3.out; omega
                         rw [hs5]
                         replace hs5 := Box.mk hs5
                         clear hH2 hHr hS
                         have hS := hS2
                         clear hS2
                         obtain ⟨s6, hs6⟩ : ∃ s, s5 ++ (if t.nulls.len = 0 then [] else t.anchor.val) = s := ⟨_, rfl⟩
                         have hs65 : s5 ++ t.anchor.val = s6 := by rw [← hs6, if_neg (by omega)]
                         have hka : t.anchor.val.length = 32 := t.anchor.property
                         have l6 : s6.length ≤ 14100 := by rw [← hs65, List.length_append, hka]; omega
                         have ga : ¬ (9223372036854775807 < s5.length + 32) := by omega
                         refine (refBytes_any t.anchor _).mono ?_
                         rintro e w3 ⟨rfl, hb3⟩
                         have hS3 : Since w0 w3 := Below.of hb3 hS.out.size hS.out
                         clear hS hb3
                         have hH3 := keepBlock hS3 hH.out
                         clear y0 y1 y2 y3 y4 y5 y6 y7 htl2
                         obtain ⟨y0, y1, y2, y3, y4, y5, y6, y7⟩ := tx_all hH3
                         rw [ha3] at y5
                         have htl2 : tb < w3.heap.size := (Array.getElem?_eq_some_iff.1 hH3).1
                         have hS := Box.mk hS3
                         replace hH3 := Box.mk hH3
                         clear hS3
                         go_wp2_with fail
                         clear y0 y1 y2 y3 y4 y5 y6 y7 htl2 htl'
                         replace hs6 := Box.mk hs6
                         obtain ⟨wl, hwl⟩ : ∃ w : World, w = w0 := ⟨_, rfl⟩
                         clear hwl wl
                         go_loopw [4, 7] (fun sv x wr => Since w0 wr ∧ ∃ j : Nat, j ≤ t.nulls.len ∧ x = .int .i64 j ∧ sv = .string (sB (s6 ++ (d.nulls.take j).flatMap (fun k : Key => k.val)))) (fun _ x _ => t.nulls.len - (intOf x).toNat)
                         case atStart => exact ⟨hS.out, 0, Nat.zero_le _, rfl, by simp⟩
                         case round =>
                           clear hS
                           obtain ⟨hS, j, hj, rfl, rfl⟩ := hrel
                           replace hS : Below w0.heap.size w0 wr := hS
                           have hHr := keepBlock hS hH.out
                           have hlr := hS.size
                           obtain ⟨t0, t1, t2, t3, t4, t5, t6, t7⟩ := tx_all hHr
                           rw [ha1] at t2
                           rw [ha2] at t3
                           rw [ha3] at t5
                           rw [ha4] at t6
                           have htl' : tb < wr.heap.size := by omega
                           by_cases hlt : j < t.nulls.len
                           · have hlt' : (j : Int) < t.nulls.len := by omega
                             obtain ⟨x, hx⟩ : ∃ x, d.nulls[j]? = some x := ⟨_, List.getElem?_eq_getElem (by have := e3.out; omega)⟩
                             obtain ⟨bk, o, hae, hbk, hr⟩ := SL.elem keyC_length (L.out.nulls.below hS) hx
                             rw [ha3] at hae
                             subst hae
                             have hmem := List.mem_of_getElem? hx
                             have hnext := flat_succ (fun k : Key => k.val) s6 hx
                             have hql := flat_le40 (fun k : Key => k.val) (fun x => by rw [x.property]; omega) (j := j) e3.out m3
                             obtain ⟨q, hq⟩ : ∃ q, s6 ++ (d.nulls.take j).flatMap (fun k : Key => k.val) = q := ⟨_, rfl⟩
                             have hqq : q.length ≤ 30000 := by rw [← hq, List.length_append]; omega
                             rw [hq] at hnext
                             rw [hq]
                             clear hql
                             replace hq := Box.mk hq
                             replace hx := Box.mk hx
                             replace hmem := Box.mk hmem
                             replace hHr := Box.mk hHr
                             have hk : x.val.length = 32 := x.property
                             have g1 : ¬ (9223372036854775807 < q.length + 32) := by omega
                             replace hnext := Box.mk hnext
                             replace hS := Box.mk hS
                             go_wp2_with fail
                             refine (refBytes_any x wr).mono ?_
                             rintro e w2 ⟨rfl, hb2⟩
                             have hq2 : Since w0 w2 := Below.of hb2 hS.out.size hS.out
                             replace hq2 := Box.mk hq2
                             clear hb2
                             go_wp2
                             go_roundw
                             case rel => exact ⟨hq2.out, j + 1, by omega, by go_num, by rw [hnext.out]⟩
                             case measure => simp [intOf]; omega
                           · obtain rfl : j = t.nulls.len := by omega
                             have hge : ¬ (t.nulls.len : Int) < t.nulls.len := by omega
                             rw [List.take_of_length_le (by have := e3.out; omega)]
                             have hfl := flat_le (fun k : Key => k.val) (fun x => by rw [x.property]; omega) d.nulls
                             obtain ⟨s7, hs7⟩ : ∃ s, s6 ++ d.nulls.flatMap (fun k : Key => k.val) = s := ⟨_, rfl⟩
                             have ls7 : s7.length ≤ s6.length + 2560 := by rw [← hs7, List.length_append]; have := e3.out; omega
                             rw [hs7]
                             clear hfl
                             replace hs7 := Box.mk hs7
                             replace hHr := Box.mk hHr
                             replace hS := Box.mk hS
                             have g9 : ¬ (9223372036854775807 < s7.length + (compactL t.notes.len).length) := by have := c4.out; omega
                             go_wp2_with fail
                             refine (refCompact_any t.notes.len wr (by omega)).mono ?_
                             rintro e w2 ⟨rfl, hb2⟩
                             have hS2 : Since w0 w2 := Below.of hb2 hS.out.size hS.out
                             have hH2 := keepBlock hS2 hH.out
                             obtain ⟨y0, y1, y2, y3, y4, y5, y6, y7⟩ := tx_all hH2
                             rw [ha1] at y2
                             rw [ha2] at y3
                             rw [ha3] at y5
                             rw [ha4] at y6
                             have htl2 : tb < w2.heap.size := (Array.getElem?_eq_some_iff.1 hH2).1
                             clear t0 t1 t2 t3 t4 t5 t6 t7 hb2
                             replace hH2 := Box.mk hH2
                             replace hS2 := Box.mk hS2
                             go_wp2_with fail
                             clear g9
                             obtain ⟨s8, hs8⟩ : ∃ s, s7 ++ compactL t.notes.len = s := ⟨_, rfl⟩
                             have l8 : s8.length ≤ 18000 := by rw [← hs8, List.length_append]; have := c4.out; omega
                             rw [hs8]
                             replace hs8 := Box.mk hs8
                             clear y0 y1 y2 y3 y4 y5 y6 y7 htl2 htl' hH2 hHr hS
                             have hS := hS2
                             clear hS2
                             obtain ⟨wl, hwl⟩ : ∃ w : World, w = w0 := ⟨_, rfl⟩
                             clear hwl wl
                             go_loopw [4, 8] (fun sv x wr => Since w0 wr ∧ ∃ j : Nat, j ≤ t.notes.len ∧ x = .int .i64 j ∧ sv = .string (sB (s8 ++ (d.notes.take j).flatMap (fun k : Key => k.val)))) (fun _ x _ => t.notes.len - (intOf x).toNat)
                             case atStart => exact ⟨hS.out, 0, Nat.zero_le _, rfl, by simp⟩
                             case round =>
                               clear hS
                               obtain ⟨hS, j, hj, rfl, rfl⟩ := hrel
                               replace hS : Below w0.heap.size w0 wr := hS
                               have hHr := keepBlock hS hH.out
                               have hlr := hS.size
                               obtain ⟨t0, t1, t2, t3, t4, t5, t6, t7⟩ := tx_all hHr
                               rw [ha1] at t2
                               rw [ha2] at t3
                               rw [ha3] at t5
                               rw [ha4] at t6
                               have htl' : tb < wr.heap.size := by omega
                               by_cases hlt : j < t.notes.len
                               · have hlt' : (j : Int) < t.notes.len := by omega
                                 obtain ⟨x, hx⟩ : ∃ x, d.notes[j]? = some x := ⟨_, List.getElem?_eq_getElem (by have := e4.out; omega)⟩
                                 obtain ⟨bk, o, hae, hbk, hr⟩ := SL.elem keyC_length (L.out.notes.below hS) hx
                                 rw [ha4] at hae
                                 subst hae
                                 have hmem := List.mem_of_getElem? hx
                                 have hnext := flat_succ (fun k : Key => k.val) s8 hx
                                 have hql := flat_le40 (fun k : Key => k.val) (fun x => by rw [x.property]; omega) (j := j) e4.out m4
                                 obtain ⟨q, hq⟩ : ∃ q, s8 ++ (d.notes.take j).flatMap (fun k : Key => k.val) = q := ⟨_, rfl⟩
                                 have hqq : q.length ≤ 30000 := by rw [← hq, List.length_append]; omega
                                 rw [hq] at hnext
                                 rw [hq]
                                 clear hql
                                 replace hq := Box.mk hq
                                 replace hx := Box.mk hx
                                 replace hmem := Box.mk hmem
                                 replace hHr := Box.mk hHr
                                 have hk : x.val.length = 32 := x.property
                                 have g1 : ¬ (9223372036854775807 < q.length + 32) := by omega
                                 replace hnext := Box.mk hnext
                                 replace hS := Box.mk hS
                                 go_wp2_with fail
                                 refine (refBytes_any x wr).mono ?_
                                 rintro e w2 ⟨rfl, hb2⟩
                                 have hq2 : Since w0 w2 := Below.of hb2 hS.out.size hS.out
                                 replace hq2 := Box.mk hq2
                                 clear hb2
                                 go_wp2
                                 go_roundw
                                 case rel => exact ⟨hq2.out, j + 1, by omega, by go_num, by rw [hnext.out]⟩
                                 case measure => simp [intOf]; omega
                               · obtain rfl : j = t.notes.len := by omega
                                 have hge : ¬ (t.notes.len : Int) < t.notes.len := by omega
                                 rw [List.take_of_length_le (by have := e4.out; omega)]
                                 have hfl := flat_le (fun k : Key => k.val) (fun x => by rw [x.property]; omega) d.notes
                                 obtain ⟨s9, hs9⟩ : ∃ s, s8 ++ d.notes.flatMap (fun k : Key => k.val) = s := ⟨_, rfl⟩
                                 have ls9 : s9.length ≤ s8.length + 2560 := by rw [← hs9, List.length_append]; have := e4.out; omega
                                 rw [hs9]
                                 clear hfl
                                 replace hs9 := Box.mk hs9
                                 replace hHr := Box.mk hHr
                                 replace hS := Box.mk hS
                                 rw [hbal.out.1] at t7
                                 have gg : ¬ (9223372036854775807 < s9.length + 8) := by omega
                                 go_wp2_with fail
                                 rw [u64N_wrap]
                                 refine (refPut_any (u64N d.bal) 8 wr (u64N_lt _)).mono ?_
                                 rintro e w2 ⟨rfl, hb2⟩
                                 have hS2 : Since w0 w2 := Below.of hb2 hS.out.size hS.out
                                 have hfin : Below W.heap.size W w2 := hB0.out.trans (Below.mono hS2 (by have := hB0.out.size; omega))
                                 have hall9 : s9 ++ le 8 (u64N d.bal) = encB d := by
                                   rw [hEB.out, ← hs9.out, ← hs8.out, ← hs7.out, ← hs6.out, ← hs5.out, ← hs4.out, ← hs3.out, ← hs2.out, ← hs1.out, hex, hbal.out.1, show u64N (ex : Int) = ex from by unfold u64N; omega]
                                 clear hb2 t0 t1 t2 t3 t4 t5 t6 t7
                                 replace hall9 := Box.mk hall9
                                 replace hfin := Box.mk hfin
                                 replace hS2 := Box.mk hS2
                                 go_wp2
                                 go_ret2
                                 exact gives (by rw [← hall9.out]; rfl) hfin.out)
          exact AllReadyH.nil
        exact AllReadyH.nil

end Go.Proofs.Ytahkiabpjfcfdaa
