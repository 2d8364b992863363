/- Layer 5: the document's Same. (printed by mkrefsame.py) -/
import Derived.Test.YtahkiabpjfcfdaaSame
namespace Go.Proofs.Ytahkiabpjfcfdaa
open Go.RowKit
set_option linter.unusedVariables false
set_option linter.unusedSimpArgs false
set_option maxRecDepth 100000
attribute [local irreducible] Int.lt Int.le
attribute [local go_sem ↓] load_key store_key alloc_key build0_key eq_key load_point store_point alloc_point load_out store_out alloc_out load_tx store_tx alloc_tx eq_pt eq_out
attribute [local go_sem] rowOf_drew rowOf_alloc_old rowOf_alloc_new canPut_drew canPut_alloc_old canPut_alloc_new setCells_alloc_new

theorem txd_ext {d e : TxD} (h1 : d.exp = e.exp) (h2 : d.ins = e.ins) (h3 : d.outs = e.outs) (h4 : d.anchor = e.anchor) (h5 : d.nulls = e.nulls) (h6 : d.notes = e.notes) (h7 : d.bal = e.bal) : d = e := by
  cases d; cases e; simp only at *; subst h1 h2 h3 h4 h5 h6 h7; rfl

set_option maxHeartbeats 8000000 in
theorem refSame_any (t u : TxV) (d e : TxD) (W : World) (h : TxL W t d) (h' : TxL W u e) (hn : t.ins.len ≤ 100000 ∧ t.outs.len ≤ 100000 ∧ t.nulls.len ≤ 100000 ∧ t.notes.len ≤ 100000) : Calls Try.prog 65 #[.agg (txC t).toArray, .agg (txC u).toArray] W (Gives (.bool (sameB d e)) W) := by
  have hB0 : Below W.heap.size W ((W.alloc (.cells (txC t).toArray 41)).alloc (.cells (txC u).toArray 41)) := ((Below.refl _ _).alloc (Nat.le_refl _) _).alloc (by simp) _
  obtain ⟨k1, k2⟩ := two_tx (W := W) (t := t) (u := u)
  obtain ⟨t0, t1, t2, t3, t4, t5, t6, t7⟩ := tx_all k1
  obtain ⟨u0, u1, u2, u3, u4, u5, u6, u7⟩ := tx_all k2
  have L := h.below hB0
  have L' := h'.below hB0
  obtain ⟨n1, n2, n3, n4⟩ := hn
  have hexp : (t.exp == u.exp) = (d.exp == e.exp) := by rw [h.exp.1, h'.exp.1]
  have hanc : (t.anchor == u.anchor) = (d.anchor == e.anchor) := by rw [h.anchor, h'.anchor]
  have hbal : (t.bal == u.bal) = (d.bal == e.bal) := by rw [h.bal.1, h'.bal.1]
  have l1 := Box.mk h.ins.1
  have l2 := Box.mk h.outs.1
  have l3 := Box.mk h.nulls.1
  have l4 := Box.mk h.notes.1
  have m1 := Box.mk h'.ins.1
  have m2 := Box.mk h'.outs.1
  have m3 := Box.mk h'.nulls.1
  have m4 := Box.mk h'.notes.1
  clear h h'
  have key : ((t.exp == u.exp) = false ∧ d ≠ e) ∨ ((t.exp == u.exp) = true ∧ ¬ t.ins.len = u.ins.len ∧ d ≠ e) ∨ ((t.exp == u.exp) = true ∧ t.ins.len = u.ins.len ∧ ¬ t.outs.len = u.outs.len ∧ d ≠ e) ∨ ((t.exp == u.exp) = true ∧ t.ins.len = u.ins.len ∧ t.outs.len = u.outs.len ∧ (t.anchor == u.anchor) = false ∧ d ≠ e) ∨
      ((t.exp == u.exp) = true ∧ t.ins.len = u.ins.len ∧ t.outs.len = u.outs.len ∧ (t.anchor == u.anchor) = true ∧ ¬ t.nulls.len = u.nulls.len ∧ d ≠ e) ∨ ((t.exp == u.exp) = true ∧ t.ins.len = u.ins.len ∧ t.outs.len = u.outs.len ∧ (t.anchor == u.anchor) = true ∧ t.nulls.len = u.nulls.len ∧ ¬ t.notes.len = u.notes.len ∧ d ≠ e) ∨
      ((t.exp == u.exp) = true ∧ t.ins.len = u.ins.len ∧ t.outs.len = u.outs.len ∧ (t.anchor == u.anchor) = true ∧ t.nulls.len = u.nulls.len ∧ t.notes.len = u.notes.len ∧ (t.bal == u.bal) = false ∧ d ≠ e) ∨
      ((t.exp == u.exp) = true ∧ t.ins.len = u.ins.len ∧ t.outs.len = u.outs.len ∧ (t.anchor == u.anchor) = true ∧ t.nulls.len = u.nulls.len ∧ t.notes.len = u.notes.len ∧ (t.bal == u.bal) = true) := by
    cases he : (t.exp == u.exp)
    · exact .inl ⟨rfl, fun hd => by rw [hexp, hd] at he; simp at he⟩
    · refine .inr ?_
      by_cases q1 : t.ins.len = u.ins.len
      · refine .inr ?_
        by_cases q2 : t.outs.len = u.outs.len
        · refine .inr ?_
          cases hk : (t.anchor == u.anchor)
          · exact .inl ⟨rfl, q1, q2, rfl, fun hd => by rw [hanc, hd] at hk; simp at hk⟩
          · refine .inr ?_
            by_cases q3 : t.nulls.len = u.nulls.len
            · refine .inr ?_
              by_cases q4 : t.notes.len = u.notes.len
              · refine .inr ?_
                cases hb : (t.bal == u.bal)
                · exact .inl ⟨rfl, q1, q2, rfl, q3, q4, rfl, fun hd => by rw [hbal, hd] at hb; simp at hb⟩
                · exact .inr ⟨rfl, q1, q2, rfl, q3, q4, rfl⟩
              · exact .inl ⟨rfl, q1, q2, rfl, q3, q4, fun hd => q4 (by rw [l4.out, m4.out, hd])⟩
            · exact .inl ⟨rfl, q1, q2, rfl, q3, fun hd => q3 (by rw [l3.out, m3.out, hd])⟩
        · exact .inl ⟨rfl, q1, q2, fun hd => q2 (by rw [l2.out, m2.out, hd])⟩
      · exact .inl ⟨rfl, q1, fun hd => q1 (by rw [l1.out, m1.out, hd])⟩
  replace hexp := Box.mk hexp
  replace hanc := Box.mk hanc
  replace hbal := Box.mk hbal
  replace L := Box.mk L
  replace L' := Box.mk L'
  replace k1 := Box.mk k1
  replace k2 := Box.mk k2

  rcases key with ⟨q_exp, hd⟩ | ⟨q_exp, q_ins, hd⟩ | ⟨q_exp, q_ins, q_outs, hd⟩ | ⟨q_exp, q_ins, q_outs, q_anc, hd⟩ | ⟨q_exp, q_ins, q_outs, q_anc, q_nulls, hd⟩ | ⟨q_exp, q_ins, q_outs, q_anc, q_nulls, q_notes, hd⟩ | ⟨q_exp, q_ins, q_outs, q_anc, q_nulls, q_notes, q_bal, hd⟩ | ⟨q_exp, q_ins, q_outs, q_anc, q_nulls, q_notes, q_bal⟩
  · have g_exp : (t.exp != u.exp) = true := by simp [bne, q_exp]
    have hres := Box.mk (sameB_false hd)
    replace hd := Box.mk hd
    go_enter Try.func65, Try.ntmps65
    go_wp2
    go_ret
    exact gives_bool hres.out.symm hB0
  · have g_exp : (t.exp != u.exp) = false := by simp [bne, q_exp]
    have p_ins : ((t.ins.len : Int) == (u.ins.len : Int)) = false := by simp; omega
    have g_ins : ((t.ins.len : Int) != (u.ins.len : Int)) = true := by simp only [bne, p_ins, Bool.not_true, Bool.not_false]
    replace q_ins := Box.mk q_ins
    have hres := Box.mk (sameB_false hd)
    replace hd := Box.mk hd
    go_enter Try.func65, Try.ntmps65
    go_wp2
    go_ret
    exact gives_bool hres.out.symm hB0
  · have g_exp : (t.exp != u.exp) = false := by simp [bne, q_exp]
    have p_ins : ((t.ins.len : Int) == (u.ins.len : Int)) = true := by rw [q_ins]; simp
    have g_ins : ((t.ins.len : Int) != (u.ins.len : Int)) = false := by simp only [bne, p_ins, Bool.not_true, Bool.not_false]
    replace q_ins := Box.mk q_ins
    have p_outs : ((t.outs.len : Int) == (u.outs.len : Int)) = false := by simp; omega
    have g_outs : ((t.outs.len : Int) != (u.outs.len : Int)) = true := by simp only [bne, p_outs, Bool.not_true, Bool.not_false]
    replace q_outs := Box.mk q_outs
    have hres := Box.mk (sameB_false hd)
    replace hd := Box.mk hd
    go_enter Try.func65, Try.ntmps65
    go_wp2
    go_ret
    exact gives_bool hres.out.symm hB0
  · have g_exp : (t.exp != u.exp) = false := by simp [bne, q_exp]
    have p_ins : ((t.ins.len : Int) == (u.ins.len : Int)) = true := by rw [q_ins]; simp
    have g_ins : ((t.ins.len : Int) != (u.ins.len : Int)) = false := by simp only [bne, p_ins, Bool.not_true, Bool.not_false]
    replace q_ins := Box.mk q_ins
    have p_outs : ((t.outs.len : Int) == (u.outs.len : Int)) = true := by rw [q_outs]; simp
    have g_outs : ((t.outs.len : Int) != (u.outs.len : Int)) = false := by simp only [bne, p_outs, Bool.not_true, Bool.not_false]
    replace q_outs := Box.mk q_outs
    have g_anc : (t.anchor != u.anchor) = true := by simp [bne, q_anc]
    have hres := Box.mk (sameB_false hd)
    replace hd := Box.mk hd
    go_enter Try.func65, Try.ntmps65
    go_wp2
    go_ret
    exact gives_bool hres.out.symm hB0
  · have g_exp : (t.exp != u.exp) = false := by simp [bne, q_exp]
    have p_ins : ((t.ins.len : Int) == (u.ins.len : Int)) = true := by rw [q_ins]; simp
    have g_ins : ((t.ins.len : Int) != (u.ins.len : Int)) = false := by simp only [bne, p_ins, Bool.not_true, Bool.not_false]
    replace q_ins := Box.mk q_ins
    have p_outs : ((t.outs.len : Int) == (u.outs.len : Int)) = true := by rw [q_outs]; simp
    have g_outs : ((t.outs.len : Int) != (u.outs.len : Int)) = false := by simp only [bne, p_outs, Bool.not_true, Bool.not_false]
    replace q_outs := Box.mk q_outs
    have g_anc : (t.anchor != u.anchor) = false := by simp [bne, q_anc]
    have p_nulls : ((t.nulls.len : Int) == (u.nulls.len : Int)) = false := by simp; omega
    have g_nulls : ((t.nulls.len : Int) != (u.nulls.len : Int)) = true := by simp only [bne, p_nulls, Bool.not_true, Bool.not_false]
    replace q_nulls := Box.mk q_nulls
    have hres := Box.mk (sameB_false hd)
    replace hd := Box.mk hd
    go_enter Try.func65, Try.ntmps65
    go_wp2
    go_ret
    exact gives_bool hres.out.symm hB0
  · have g_exp : (t.exp != u.exp) = false := by simp [bne, q_exp]
    have p_ins : ((t.ins.len : Int) == (u.ins.len : Int)) = true := by rw [q_ins]; simp
    have g_ins : ((t.ins.len : Int) != (u.ins.len : Int)) = false := by simp only [bne, p_ins, Bool.not_true, Bool.not_false]
    replace q_ins := Box.mk q_ins
    have p_outs : ((t.outs.len : Int) == (u.outs.len : Int)) = true := by rw [q_outs]; simp
    have g_outs : ((t.outs.len : Int) != (u.outs.len : Int)) = false := by simp only [bne, p_outs, Bool.not_true, Bool.not_false]
    replace q_outs := Box.mk q_outs
    have g_anc : (t.anchor != u.anchor) = false := by simp [bne, q_anc]
    have p_nulls : ((t.nulls.len : Int) == (u.nulls.len : Int)) = true := by rw [q_nulls]; simp
    have g_nulls : ((t.nulls.len : Int) != (u.nulls.len : Int)) = false := by simp only [bne, p_nulls, Bool.not_true, Bool.not_false]
    replace q_nulls := Box.mk q_nulls
    have p_notes : ((t.notes.len : Int) == (u.notes.len : Int)) = false := by simp; omega
    have g_notes : ((t.notes.len : Int) != (u.notes.len : Int)) = true := by simp only [bne, p_notes, Bool.not_true, Bool.not_false]
    replace q_notes := Box.mk q_notes
    have hres := Box.mk (sameB_false hd)
    replace hd := Box.mk hd
    go_enter Try.func65, Try.ntmps65
    go_wp2
    go_ret
    exact gives_bool hres.out.symm hB0
  · have g_exp : (t.exp != u.exp) = false := by simp [bne, q_exp]
    have p_ins : ((t.ins.len : Int) == (u.ins.len : Int)) = true := by rw [q_ins]; simp
    have g_ins : ((t.ins.len : Int) != (u.ins.len : Int)) = false := by simp only [bne, p_ins, Bool.not_true, Bool.not_false]
    replace q_ins := Box.mk q_ins
    have p_outs : ((t.outs.len : Int) == (u.outs.len : Int)) = true := by rw [q_outs]; simp
    have g_outs : ((t.outs.len : Int) != (u.outs.len : Int)) = false := by simp only [bne, p_outs, Bool.not_true, Bool.not_false]
    replace q_outs := Box.mk q_outs
    have g_anc : (t.anchor != u.anchor) = false := by simp [bne, q_anc]
    have p_nulls : ((t.nulls.len : Int) == (u.nulls.len : Int)) = true := by rw [q_nulls]; simp
    have g_nulls : ((t.nulls.len : Int) != (u.nulls.len : Int)) = false := by simp only [bne, p_nulls, Bool.not_true, Bool.not_false]
    replace q_nulls := Box.mk q_nulls
    have p_notes : ((t.notes.len : Int) == (u.notes.len : Int)) = true := by rw [q_notes]; simp
    have g_notes : ((t.notes.len : Int) != (u.notes.len : Int)) = false := by simp only [bne, p_notes, Bool.not_true, Bool.not_false]
    replace q_notes := Box.mk q_notes
    have g_bal : (t.bal != u.bal) = true := by simp [bne, q_bal]
    have hres := Box.mk (sameB_false hd)
    replace hd := Box.mk hd
    go_enter Try.func65, Try.ntmps65
    go_wp2
    go_ret
    exact gives_bool hres.out.symm hB0
  · have g_exp : (t.exp != u.exp) = false := by simp [bne, q_exp]
    have p_ins : ((t.ins.len : Int) == (u.ins.len : Int)) = true := by rw [q_ins]; simp
    have g_ins : ((t.ins.len : Int) != (u.ins.len : Int)) = false := by simp only [bne, p_ins, Bool.not_true, Bool.not_false]
    replace q_ins := Box.mk q_ins
    have p_outs : ((t.outs.len : Int) == (u.outs.len : Int)) = true := by rw [q_outs]; simp
    have g_outs : ((t.outs.len : Int) != (u.outs.len : Int)) = false := by simp only [bne, p_outs, Bool.not_true, Bool.not_false]
    replace q_outs := Box.mk q_outs
    have g_anc : (t.anchor != u.anchor) = false := by simp [bne, q_anc]
    have p_nulls : ((t.nulls.len : Int) == (u.nulls.len : Int)) = true := by rw [q_nulls]; simp
    have g_nulls : ((t.nulls.len : Int) != (u.nulls.len : Int)) = false := by simp only [bne, p_nulls, Bool.not_true, Bool.not_false]
    replace q_nulls := Box.mk q_nulls
    have p_notes : ((t.notes.len : Int) == (u.notes.len : Int)) = true := by rw [q_notes]; simp
    have g_notes : ((t.notes.len : Int) != (u.notes.len : Int)) = false := by simp only [bne, p_notes, Bool.not_true, Bool.not_false]
    replace q_notes := Box.mk q_notes
    have g_bal : (t.bal != u.bal) = false := by simp [bne, q_bal]
    go_enter Try.func65, Try.ntmps65
    go_wp2_with fail
    clear t1 t2 t3 t4 t5 t6 t7 u1 u2 u3 u4 u5 u6 u7 p_ins p_outs p_nulls p_notes g_exp g_ins g_outs g_anc g_nulls g_notes g_bal
    replace q_exp := Box.mk q_exp
    replace q_anc := Box.mk q_anc
    replace q_bal := Box.mk q_bal
    generalize (W.alloc (.cells (txC t).toArray 41)).alloc (.cells (txC u).toArray 41) = w0 at *
    have HB0 : Below w0.heap.size w0 w0 := Below.refl _ _
    go_loopw [5] (fun i wr => Below w0.heap.size w0 wr ∧ ∃ j : Nat, j ≤ t.ins.len ∧ i = .int .i64 j ∧ d.ins.take j = e.ins.take j) (fun i _ => t.ins.len - (intOf i).toNat)
    case atStart => exact ⟨HB0, 0, Nat.zero_le _, rfl, rfl⟩
    case round =>
      obtain ⟨hbr0, j, hj, rfl, ht⟩ := hrel
      have hsz := hbr0.size
      have K1 := keepBlock hbr0 k1.out
      have K2 := keepBlock hbr0 k2.out
      obtain ⟨t0, t1, t2, t3, t4, t5, t6, t7⟩ := tx_all K1
      obtain ⟨u0, u1, u2, u3, u4, u5, u6, u7⟩ := tx_all K2
      clear t1 t4 t7 u1 u4 u7
      replace K1 := Box.mk K1
      replace K2 := Box.mk K2
      by_cases hlt : j < t.ins.len
      · have hlt' : (j : Int) < (t.ins.len : Int) := by omega
        have hlt2 : (j : Int) < (u.ins.len : Int) := by have := q_ins.out; omega
        obtain ⟨x, hx⟩ : ∃ x, d.ins[j]? = some x := ⟨_, List.getElem?_eq_getElem (by have := l1.out; omega)⟩
        obtain ⟨y, hy⟩ : ∃ x, e.ins[j]? = some x := ⟨_, List.getElem?_eq_getElem (by have := m1.out; have := q_ins.out; omega)⟩
        obtain ⟨b, o, hae, hb, hr⟩ := SL.elem pointC_length L.out.ins hx
        obtain ⟨b', o', hae', hb', hr'⟩ := SL.elem pointC_length L'.out.ins hy
        rw [hae] at t2
        rw [hae'] at u2
        have R1 : rowOf wr b (o + j * 33) 33 = some (pointC x) := by rw [rowOf_congr (hbr0.block b hb)]; exact hr
        have R2 : rowOf wr b' (o' + j * 33) 33 = some (pointC y) := by rw [rowOf_congr (hbr0.block b' hb')]; exact hr'
        have s1 : b < wr.heap.size := by omega
        have s2 : b' < wr.heap.size := by omega
        replace hr := Box.mk hr
        replace hr' := Box.mk hr'
        replace hae := Box.mk hae
        replace hae' := Box.mk hae'
        by_cases he : x = y
        · have hnx := Box.mk (take_next hx hy he ht)
          have hq : eqB_pt x y = true := (eqB_pt_iff x y).2 he
          replace hx := Box.mk hx
          replace hy := Box.mk hy
          replace he := Box.mk he
          replace ht := Box.mk ht
          go_wp2_with fail
          (refine region_since (by kernel_rfl) (by kernel_rfl) ?_)
          repeat (first
            | (refine wpQuiet_goff rfl rfl rfl rfl ?_; simp only [Act.put, List.setIfInBounds_toArray, List.set_cons_succ, List.set_cons_zero])
            | (first
                 | refine wpQuiet_free rfl ?_
                 | refine wpQuiet_gon rfl rfl rfl rfl ?_
               apply Exists.intro
               refine ⟨fun w' hw' => ?_, ?_⟩
               · (obtain ⟨hc', hr', hs'⟩ := since_facts hw'
                  unfold Oper.quietAt
                  go_simp
                  try go_bits
                  first
                    | exact quietUpon_value rfl
                    | exact rfl
                    | (apply quietUpon_enter
                       first
                       | fail))
               simp only [Act.put, List.setIfInBounds_toArray, List.set_cons_succ, List.set_cons_zero]))
          first
            | refine wpQuiet_nil ?_
            | fail "QUIET stopped"
          intro wq hwq'
          go_wp2
          go_roundw
          case rel => exact ⟨since_next hbr0 hwq', j + 1, by omega, by go_num, hnx.out⟩
          case measure => simp [intOf]; omega
        · have hres := Box.mk (sameB_false (d := d) (e := e) (fun hd => ne_of_get hx hy he (by rw [hd])))
          have hq : eqB_pt x y = false := by cases hc : eqB_pt x y with | false => rfl | true => exact absurd ((eqB_pt_iff x y).1 hc) he
          replace hx := Box.mk hx
          replace hy := Box.mk hy
          replace he := Box.mk he
          replace ht := Box.mk ht
          go_wp2_with fail
          (refine region_since (by kernel_rfl) (by kernel_rfl) ?_)
          repeat (first
            | (refine wpQuiet_goff rfl rfl rfl rfl ?_; simp only [Act.put, List.setIfInBounds_toArray, List.set_cons_succ, List.set_cons_zero])
            | (first
                 | refine wpQuiet_free rfl ?_
                 | refine wpQuiet_gon rfl rfl rfl rfl ?_
               apply Exists.intro
               refine ⟨fun w' hw' => ?_, ?_⟩
               · (obtain ⟨hc', hr', hs'⟩ := since_facts hw'
                  unfold Oper.quietAt
                  go_simp
                  try go_bits
                  first
                    | exact quietUpon_value rfl
                    | exact rfl
                    | (apply quietUpon_enter
                       first
                       | fail))
               simp only [Act.put, List.setIfInBounds_toArray, List.set_cons_succ, List.set_cons_zero]))
          first
            | refine wpQuiet_nil ?_
            | fail "QUIET stopped"
          intro wq hwq'
          go_wp2
          go_ret
          exact gives_bool hres.out.symm (hB0.trans ((since_next hbr0 hwq').mono hB0.size))
      · obtain rfl : j = t.ins.len := by omega
        have hge : ¬ (t.ins.len : Int) < (t.ins.len : Int) := by omega
        have hE0 : d.ins = e.ins := by
          have h1 := l1.out
          have h2 := m1.out
          have h3 := q_ins.out
          rw [h1, List.take_length] at ht
          rw [ht, ← h1, h3, h2, List.take_length]
        replace hE0 := Box.mk hE0
        replace ht := Box.mk ht
        go_wp2_with fail
        clear t0 t2 t3 t5 t6 u0 u2 u3 u5 u6 hge
        go_loopw [6] (fun i wr => Below w0.heap.size w0 wr ∧ ∃ j : Nat, j ≤ t.outs.len ∧ i = .int .i64 j ∧ d.outs.take j = e.outs.take j) (fun i _ => t.outs.len - (intOf i).toNat)
        case atStart => exact ⟨hbr0, 0, Nat.zero_le _, rfl, rfl⟩
        case round =>
          obtain ⟨hbr1, j, hj, rfl, ht⟩ := hrel
          have hsz := hbr1.size
          have K1 := keepBlock hbr1 k1.out
          have K2 := keepBlock hbr1 k2.out
          obtain ⟨t0, t1, t2, t3, t4, t5, t6, t7⟩ := tx_all K1
          obtain ⟨u0, u1, u2, u3, u4, u5, u6, u7⟩ := tx_all K2
          clear t1 t4 t7 u1 u4 u7
          replace K1 := Box.mk K1
          replace K2 := Box.mk K2
          by_cases hlt : j < t.outs.len
          · have hlt' : (j : Int) < (t.outs.len : Int) := by omega
            have hlt2 : (j : Int) < (u.outs.len : Int) := by have := q_outs.out; omega
            obtain ⟨x, hx⟩ : ∃ x, d.outs[j]? = some x := ⟨_, List.getElem?_eq_getElem (by have := l2.out; omega)⟩
            obtain ⟨y, hy⟩ : ∃ x, e.outs[j]? = some x := ⟨_, List.getElem?_eq_getElem (by have := m2.out; have := q_outs.out; omega)⟩
            obtain ⟨b, o, hae, hb, hr⟩ := SL.elem outC_length L.out.outs hx
            obtain ⟨b', o', hae', hb', hr'⟩ := SL.elem outC_length L'.out.outs hy
            rw [hae] at t3
            rw [hae'] at u3
            have R1 : rowOf wr b (o + j * 33) 33 = some (outC x) := by rw [rowOf_congr (hbr1.block b hb)]; exact hr
            have R2 : rowOf wr b' (o' + j * 33) 33 = some (outC y) := by rw [rowOf_congr (hbr1.block b' hb')]; exact hr'
            have s1 : b < wr.heap.size := by omega
            have s2 : b' < wr.heap.size := by omega
            replace hr := Box.mk hr
            replace hr' := Box.mk hr'
            replace hae := Box.mk hae
            replace hae' := Box.mk hae'
            by_cases he : x = y
            · have hnx := Box.mk (take_next hx hy he ht)
              have hq : eqB_out x y = true := (eqB_out_iff x y).2 he
              replace hx := Box.mk hx
              replace hy := Box.mk hy
              replace he := Box.mk he
              replace ht := Box.mk ht
              go_wp2_with fail
              (refine region_since (by kernel_rfl) (by kernel_rfl) ?_)
              repeat (first
                | (refine wpQuiet_goff rfl rfl rfl rfl ?_; simp only [Act.put, List.setIfInBounds_toArray, List.set_cons_succ, List.set_cons_zero])
                | (first
                     | refine wpQuiet_free rfl ?_
                     | refine wpQuiet_gon rfl rfl rfl rfl ?_
                   apply Exists.intro
                   refine ⟨fun w' hw' => ?_, ?_⟩
                   · (obtain ⟨hc', hr', hs'⟩ := since_facts hw'
                      unfold Oper.quietAt
                      go_simp
                      try go_bits
                      first
                        | exact quietUpon_value rfl
                        | exact rfl
                        | (apply quietUpon_enter
                           first
                           | fail))
                   simp only [Act.put, List.setIfInBounds_toArray, List.set_cons_succ, List.set_cons_zero]))
              first
                | refine wpQuiet_nil ?_
                | fail "QUIET stopped"
              intro wq hwq'
              go_wp2
              go_roundw
              case rel => exact ⟨since_next hbr1 hwq', j + 1, by omega, by go_num, hnx.out⟩
              case measure => simp [intOf]; omega
            · have hres := Box.mk (sameB_false (d := d) (e := e) (fun hd => ne_of_get hx hy he (by rw [hd])))
              have hq : eqB_out x y = false := by cases hc : eqB_out x y with | false => rfl | true => exact absurd ((eqB_out_iff x y).1 hc) he
              replace hx := Box.mk hx
              replace hy := Box.mk hy
              replace he := Box.mk he
              replace ht := Box.mk ht
              go_wp2_with fail
              (refine region_since (by kernel_rfl) (by kernel_rfl) ?_)
              repeat (first
                | (refine wpQuiet_goff rfl rfl rfl rfl ?_; simp only [Act.put, List.setIfInBounds_toArray, List.set_cons_succ, List.set_cons_zero])
                | (first
                     | refine wpQuiet_free rfl ?_
                     | refine wpQuiet_gon rfl rfl rfl rfl ?_
                   apply Exists.intro
                   refine ⟨fun w' hw' => ?_, ?_⟩
                   · (obtain ⟨hc', hr', hs'⟩ := since_facts hw'
                      unfold Oper.quietAt
                      go_simp
                      try go_bits
                      first
                        | exact quietUpon_value rfl
                        | exact rfl
                        | (apply quietUpon_enter
                           first
                           | fail))
                   simp only [Act.put, List.setIfInBounds_toArray, List.set_cons_succ, List.set_cons_zero]))
              first
                | refine wpQuiet_nil ?_
                | fail "QUIET stopped"
              intro wq hwq'
              go_wp2
              go_ret
              exact gives_bool hres.out.symm (hB0.trans ((since_next hbr1 hwq').mono hB0.size))
          · obtain rfl : j = t.outs.len := by omega
            have hge : ¬ (t.outs.len : Int) < (t.outs.len : Int) := by omega
            have hE1 : d.outs = e.outs := by
              have h1 := l2.out
              have h2 := m2.out
              have h3 := q_outs.out
              rw [h1, List.take_length] at ht
              rw [ht, ← h1, h3, h2, List.take_length]
            replace hE1 := Box.mk hE1
            replace ht := Box.mk ht
            go_wp2_with fail
            clear t0 t2 t3 t5 t6 u0 u2 u3 u5 u6 hge
            go_loopw [7] (fun i wr => Below w0.heap.size w0 wr ∧ ∃ j : Nat, j ≤ t.nulls.len ∧ i = .int .i64 j ∧ d.nulls.take j = e.nulls.take j) (fun i _ => t.nulls.len - (intOf i).toNat)
            case atStart => exact ⟨hbr1, 0, Nat.zero_le _, rfl, rfl⟩
            case round =>
              obtain ⟨hbr2, j, hj, rfl, ht⟩ := hrel
              have hsz := hbr2.size
              have K1 := keepBlock hbr2 k1.out
              have K2 := keepBlock hbr2 k2.out
              obtain ⟨t0, t1, t2, t3, t4, t5, t6, t7⟩ := tx_all K1
              obtain ⟨u0, u1, u2, u3, u4, u5, u6, u7⟩ := tx_all K2
              clear t1 t4 t7 u1 u4 u7
              replace K1 := Box.mk K1
              replace K2 := Box.mk K2
              by_cases hlt : j < t.nulls.len
              · have hlt' : (j : Int) < (t.nulls.len : Int) := by omega
                have hlt2 : (j : Int) < (u.nulls.len : Int) := by have := q_nulls.out; omega
                obtain ⟨x, hx⟩ : ∃ x, d.nulls[j]? = some x := ⟨_, List.getElem?_eq_getElem (by have := l3.out; omega)⟩
                obtain ⟨y, hy⟩ : ∃ x, e.nulls[j]? = some x := ⟨_, List.getElem?_eq_getElem (by have := m3.out; have := q_nulls.out; omega)⟩
                obtain ⟨b, o, hae, hb, hr⟩ := SL.elem keyC_length L.out.nulls hx
                obtain ⟨b', o', hae', hb', hr'⟩ := SL.elem keyC_length L'.out.nulls hy
                rw [hae] at t5
                rw [hae'] at u5
                have R1 : rowOf wr b (o + j * 32) 32 = some (keyC x) := by rw [rowOf_congr (hbr2.block b hb)]; exact hr
                have R2 : rowOf wr b' (o' + j * 32) 32 = some (keyC y) := by rw [rowOf_congr (hbr2.block b' hb')]; exact hr'
                have s1 : b < wr.heap.size := by omega
                have s2 : b' < wr.heap.size := by omega
                replace hr := Box.mk hr
                replace hr' := Box.mk hr'
                replace hae := Box.mk hae
                replace hae' := Box.mk hae'
                by_cases he : x = y
                · have hnx := Box.mk (take_next hx hy he ht)
                  have hq : (x == y) = true := (eqB_key_iff x y).2 he
                  replace hx := Box.mk hx
                  replace hy := Box.mk hy
                  replace he := Box.mk he
                  replace ht := Box.mk ht
                  go_wp2_with fail
                  (refine region_since (by kernel_rfl) (by kernel_rfl) ?_)
                  repeat (first
                    | (refine wpQuiet_goff rfl rfl rfl rfl ?_; simp only [Act.put, List.setIfInBounds_toArray, List.set_cons_succ, List.set_cons_zero])
                    | (first
                         | refine wpQuiet_free rfl ?_
                         | refine wpQuiet_gon rfl rfl rfl rfl ?_
                       apply Exists.intro
                       refine ⟨fun w' hw' => ?_, ?_⟩
                       · (obtain ⟨hc', hr', hs'⟩ := since_facts hw'
                          unfold Oper.quietAt
                          go_simp
                          try go_bits
                          first
                            | exact quietUpon_value rfl
                            | exact rfl
                            | (apply quietUpon_enter
                               first
                               | fail))
                       simp only [Act.put, List.setIfInBounds_toArray, List.set_cons_succ, List.set_cons_zero]))
                  first
                    | refine wpQuiet_nil ?_
                    | fail "QUIET stopped"
                  intro wq hwq'
                  go_wp2
                  go_roundw
                  case rel => exact ⟨since_next hbr2 hwq', j + 1, by omega, by go_num, hnx.out⟩
                  case measure => simp [intOf]; omega
                · have hres := Box.mk (sameB_false (d := d) (e := e) (fun hd => ne_of_get hx hy he (by rw [hd])))
                  have hq : (x == y) = false := by cases hc : eqB_key x y with | false => exact hc | true => exact absurd ((eqB_key_iff x y).1 hc) he
                  replace hx := Box.mk hx
                  replace hy := Box.mk hy
                  replace he := Box.mk he
                  replace ht := Box.mk ht
                  go_wp2_with fail
                  (refine region_since (by kernel_rfl) (by kernel_rfl) ?_)
                  repeat (first
                    | (refine wpQuiet_goff rfl rfl rfl rfl ?_; simp only [Act.put, List.setIfInBounds_toArray, List.set_cons_succ, List.set_cons_zero])
                    | (first
                         | refine wpQuiet_free rfl ?_
                         | refine wpQuiet_gon rfl rfl rfl rfl ?_
                       apply Exists.intro
                       refine ⟨fun w' hw' => ?_, ?_⟩
                       · (obtain ⟨hc', hr', hs'⟩ := since_facts hw'
                          unfold Oper.quietAt
                          go_simp
                          try go_bits
                          first
                            | exact quietUpon_value rfl
                            | exact rfl
                            | (apply quietUpon_enter
                               first
                               | fail))
                       simp only [Act.put, List.setIfInBounds_toArray, List.set_cons_succ, List.set_cons_zero]))
                  first
                    | refine wpQuiet_nil ?_
                    | fail "QUIET stopped"
                  intro wq hwq'
                  go_wp2
                  go_ret
                  exact gives_bool hres.out.symm (hB0.trans ((since_next hbr2 hwq').mono hB0.size))
              · obtain rfl : j = t.nulls.len := by omega
                have hge : ¬ (t.nulls.len : Int) < (t.nulls.len : Int) := by omega
                have hE2 : d.nulls = e.nulls := by
                  have h1 := l3.out
                  have h2 := m3.out
                  have h3 := q_nulls.out
                  rw [h1, List.take_length] at ht
                  rw [ht, ← h1, h3, h2, List.take_length]
                replace hE2 := Box.mk hE2
                replace ht := Box.mk ht
                go_wp2_with fail
                clear t0 t2 t3 t5 t6 u0 u2 u3 u5 u6 hge
                go_loopw [8] (fun i wr => Below w0.heap.size w0 wr ∧ ∃ j : Nat, j ≤ t.notes.len ∧ i = .int .i64 j ∧ d.notes.take j = e.notes.take j) (fun i _ => t.notes.len - (intOf i).toNat)
                case atStart => exact ⟨hbr2, 0, Nat.zero_le _, rfl, rfl⟩
                case round =>
                  obtain ⟨hbr3, j, hj, rfl, ht⟩ := hrel
                  have hsz := hbr3.size
                  have K1 := keepBlock hbr3 k1.out
                  have K2 := keepBlock hbr3 k2.out
                  obtain ⟨t0, t1, t2, t3, t4, t5, t6, t7⟩ := tx_all K1
                  obtain ⟨u0, u1, u2, u3, u4, u5, u6, u7⟩ := tx_all K2
                  clear t1 t4 t7 u1 u4 u7
                  replace K1 := Box.mk K1
                  replace K2 := Box.mk K2
                  by_cases hlt : j < t.notes.len
                  · have hlt' : (j : Int) < (t.notes.len : Int) := by omega
                    have hlt2 : (j : Int) < (u.notes.len : Int) := by have := q_notes.out; omega
                    obtain ⟨x, hx⟩ : ∃ x, d.notes[j]? = some x := ⟨_, List.getElem?_eq_getElem (by have := l4.out; omega)⟩
                    obtain ⟨y, hy⟩ : ∃ x, e.notes[j]? = some x := ⟨_, List.getElem?_eq_getElem (by have := m4.out; have := q_notes.out; omega)⟩
                    obtain ⟨b, o, hae, hb, hr⟩ := SL.elem keyC_length L.out.notes hx
                    obtain ⟨b', o', hae', hb', hr'⟩ := SL.elem keyC_length L'.out.notes hy
                    rw [hae] at t6
                    rw [hae'] at u6
                    have R1 : rowOf wr b (o + j * 32) 32 = some (keyC x) := by rw [rowOf_congr (hbr3.block b hb)]; exact hr
                    have R2 : rowOf wr b' (o' + j * 32) 32 = some (keyC y) := by rw [rowOf_congr (hbr3.block b' hb')]; exact hr'
                    have s1 : b < wr.heap.size := by omega
                    have s2 : b' < wr.heap.size := by omega
                    replace hr := Box.mk hr
                    replace hr' := Box.mk hr'
                    replace hae := Box.mk hae
                    replace hae' := Box.mk hae'
                    by_cases he : x = y
                    · have hnx := Box.mk (take_next hx hy he ht)
                      have hq : (x == y) = true := (eqB_key_iff x y).2 he
                      replace hx := Box.mk hx
                      replace hy := Box.mk hy
                      replace he := Box.mk he
                      replace ht := Box.mk ht
                      go_wp2_with fail
                      (refine region_since (by kernel_rfl) (by kernel_rfl) ?_)
                      repeat (first
                        | (refine wpQuiet_goff rfl rfl rfl rfl ?_; simp only [Act.put, List.setIfInBounds_toArray, List.set_cons_succ, List.set_cons_zero])
                        | (first
                             | refine wpQuiet_free rfl ?_
                             | refine wpQuiet_gon rfl rfl rfl rfl ?_
                           apply Exists.intro
                           refine ⟨fun w' hw' => ?_, ?_⟩
                           · (obtain ⟨hc', hr', hs'⟩ := since_facts hw'
                              unfold Oper.quietAt
                              go_simp
                              try go_bits
                              first
                                | exact quietUpon_value rfl
                                | exact rfl
                                | (apply quietUpon_enter
                                   first
                                   | fail))
                           simp only [Act.put, List.setIfInBounds_toArray, List.set_cons_succ, List.set_cons_zero]))
                      first
                        | refine wpQuiet_nil ?_
                        | fail "QUIET stopped"
                      intro wq hwq'
                      go_wp2
                      go_roundw
                      case rel => exact ⟨since_next hbr3 hwq', j + 1, by omega, by go_num, hnx.out⟩
                      case measure => simp [intOf]; omega
                    · have hres := Box.mk (sameB_false (d := d) (e := e) (fun hd => ne_of_get hx hy he (by rw [hd])))
                      have hq : (x == y) = false := by cases hc : eqB_key x y with | false => exact hc | true => exact absurd ((eqB_key_iff x y).1 hc) he
                      replace hx := Box.mk hx
                      replace hy := Box.mk hy
                      replace he := Box.mk he
                      replace ht := Box.mk ht
                      go_wp2_with fail
                      (refine region_since (by kernel_rfl) (by kernel_rfl) ?_)
                      repeat (first
                        | (refine wpQuiet_goff rfl rfl rfl rfl ?_; simp only [Act.put, List.setIfInBounds_toArray, List.set_cons_succ, List.set_cons_zero])
                        | (first
                             | refine wpQuiet_free rfl ?_
                             | refine wpQuiet_gon rfl rfl rfl rfl ?_
                           apply Exists.intro
                           refine ⟨fun w' hw' => ?_, ?_⟩
                           · (obtain ⟨hc', hr', hs'⟩ := since_facts hw'
                              unfold Oper.quietAt
                              go_simp
                              try go_bits
                              first
                                | exact quietUpon_value rfl
                                | exact rfl
                                | (apply quietUpon_enter
                                   first
                                   | fail))
                           simp only [Act.put, List.setIfInBounds_toArray, List.set_cons_succ, List.set_cons_zero]))
                      first
                        | refine wpQuiet_nil ?_
                        | fail "QUIET stopped"
                      intro wq hwq'
                      go_wp2
                      go_ret
                      exact gives_bool hres.out.symm (hB0.trans ((since_next hbr3 hwq').mono hB0.size))
                  · obtain rfl : j = t.notes.len := by omega
                    have hge : ¬ (t.notes.len : Int) < (t.notes.len : Int) := by omega
                    have hE3 : d.notes = e.notes := by
                      have h1 := l4.out
                      have h2 := m4.out
                      have h3 := q_notes.out
                      rw [h1, List.take_length] at ht
                      rw [ht, ← h1, h3, h2, List.take_length]
                    replace hE3 := Box.mk hE3
                    replace ht := Box.mk ht
                    have hres : sameB d e = true := by
                      refine (sameB_iff d e).2 ?_
                      have a1 := q_exp.out; have a2 := q_anc.out; have a3 := q_bal.out
                      rw [hexp.out, beq_iff_eq] at a1
                      rw [hanc.out, beq_iff_eq] at a2
                      rw [hbal.out, beq_iff_eq] at a3
                      have b0 := hE0.out; have b1 := hE1.out; have b2 := hE2.out; have b3 := hE3.out
                      exact txd_ext a1 b0 b1 a2 b2 b3 a3
                    replace hres := Box.mk hres
                    go_wp2
                    go_ret
                    exact gives_bool hres.out.symm (hB0.trans (hbr3.mono hB0.size))

end Go.Proofs.Ytahkiabpjfcfdaa
