/- Package tx: Read. (printed by mkrd5.py) -/
import Derived.Test.YtahkiabpjfcfdaaRd5
namespace Go.Proofs.Ytahkiabpjfcfdaa
open Go.RowKit
set_option linter.unusedVariables false
set_option linter.unusedSimpArgs false
set_option maxRecDepth 100000
attribute [local irreducible] Int.lt Int.le
attribute [local go_sem ↓] load_key store_key alloc_key build0_key eq_key load_point store_point alloc_point load_out store_out alloc_out load_tx store_tx alloc_tx build0_tx
attribute [local go_sem] rowOf_drew rowOf_alloc_old rowOf_alloc_new canPut_drew canPut_alloc_old canPut_alloc_new setCells_alloc_new

theorem RI.start (W : World) (s : List UInt8) (hs : s.length ≤ 1000000) : RI W s rtx1 zeroTx zeroD s
    (((((W.alloc (.cells (txC zeroTx).toArray 41)).alloc (.cells #[.string { data := #[] }] 9)).alloc (.cells #[.int .i64 0] 52)).alloc (.cells #[.string (sB s)] 123)).alloc (.cells #[.pointer (some ⟨W.heap.size + 1 + 1 + 1, 0, none⟩)] 121)) := by
  have z : ∀ (w : World) (o : Obj) (b : Nat) (x : Obj), w.heap[b]? = some x → (w.alloc o).heap[b]? = some x := fun w o b x h => by rw [Below.heap_alloc _ _ _ (Array.getElem?_eq_some_iff.1 h).1]; exact h
  have n : ∀ (w : World) (o : Obj) (b : Nat), b = w.heap.size → (w.alloc o).heap[b]? = some o := fun w o b hb => by subst hb; exact heap_alloc_new w o
  refine ⟨⟨z _ _ _ _ (z _ _ _ _ (z _ _ _ _ (z _ _ _ _ (n _ _ _ rfl)))), z _ _ _ _ (z _ _ _ _ (z _ _ _ _ (n _ _ _ (by simp)))), z _ _ _ _ (z _ _ _ _ (n _ _ _ (by simp)))⟩, ⟨z _ _ _ _ (n _ _ _ (by simp))⟩, ⟨n _ _ _ (by simp), by omega⟩,
    (((((Below.refl _ _).alloc (Nat.le_refl _) _).alloc (by simp; try omega) _).alloc (by simp; try omega) _).alloc (by simp; try omega) _).alloc (by simp; try omega) _, Own.nil _ _ _ _ _, Own.nil _ _ _ _ _, Own.nil _ _ _ _ _, Own.nil _ _ _ _ _, ?_, ?_, ⟨rfl, by decide, by decide⟩, rfl, ⟨rfl, by decide, by decide⟩, by unfold txR; rfl, hs⟩
  · intro p hp; cases hp
  · intro p hp; cases hp
theorem RI.walk {W : World} {s0 : List UInt8} {k : TxD → List UInt8 → Got TxD} {t : TxV} {d : TxD} {s : List UInt8} {w : World} (h : RI W s0 k t d s w) :
    w.cell? ⟨W.heap.size + 1 + 1 + 1 + 1, 0, none⟩ = some (.pointer (some ⟨W.heap.size + 1 + 1 + 1, 0, none⟩)) ∧ W.heap.size + 1 + 1 + 1 + 1 < w.heap.size ∧ W.heap.size < w.heap.size ∧
    w.cell? ⟨W.heap.size, 0, none⟩ = some (.int .u32 t.exp) ∧ w.cell? ⟨W.heap.size, 1, none⟩ = some (.slice t.ins.a t.ins.len t.ins.cap) ∧ w.cell? ⟨W.heap.size, 2, none⟩ = some (.slice t.outs.a t.outs.len t.outs.cap) ∧
    w.cell? ⟨W.heap.size, 35, none⟩ = some (.slice t.nulls.a t.nulls.len t.nulls.cap) ∧ w.cell? ⟨W.heap.size, 36, none⟩ = some (.slice t.notes.a t.notes.len t.notes.cap) ∧ w.cell? ⟨W.heap.size, 37, none⟩ = some (.int .i64 t.bal) ∧ (∀ o, w.frozen? ⟨W.heap.size, o, none⟩ = false) ∧ canPut w W.heap.size 3 32 = true := by
  obtain ⟨t0, t1, t2, t3, t4, t5, t6, t7⟩ := tx_all h.j.tx
  exact ⟨h.cells.1, h.cells.2.1, h.cells.2.2, t1, t2, t3, t5, t6, t7, fun o => frozen_of_row w _ o _ _ h.j.tx, canPut_block h.j.tx 3 32 (by simp [txC_length])⟩

set_option maxHeartbeats 8000000 in
theorem txRead_any (s : List UInt8) (W : World) (hs : s.length ≤ 1000000) : Calls Try.prog 60 #[.string (sB s)] W (ReadTo W (txR s)) := by
  have hmf : ∀ (fn : Fn) (first cap : Array Value) (w : World), (Instr.makeFunc fn first cap).run Try.prog w = .ok (.func fn first cap) w := fun _ _ _ _ => rfl
  have R0 := RI.start W s hs
  replace hs := Box.mk hs
  go_enter_defers Try.func60, Try.ntmps60
  go_wp2_with fail
  generalize (((((W.alloc (.cells (txC zeroTx).toArray 41)).alloc (.cells #[.string { data := #[] }] 9)).alloc (.cells #[.int .i64 0] 52)).alloc (.cells #[.string (sB s)] 123)).alloc (.cells #[.pointer (some ⟨W.heap.size + 1 + 1 + 1, 0, none⟩)] 121)) = w0 at *

  refine (number4_any R0.rd).mono ?_
  rcases hn0 : numR 4 s with x | ⟨n, r0⟩
  · have hx : txR s = .error x := by rw [R0.eq]; unfold rtx1; rw [hn0]; rfl
    replace hx := Box.mk hx
    replace R0 := Box.mk R0
    rintro e w' ⟨rfl, o⟩
    go_wp2
    exact read_dies hx.out rfl rfl rfl R0.out.j R0.out.below o
  · rintro e w1 ⟨v, rfl, rfl, h1, o1⟩
    have hn := (numR_le hn0).2
    have hn' : (n : Int) % 4294967296 = n := by omega
    have R1 := R0.next o1 h1 (fun d q => rtx2 { d with exp := n } q) (by rw [R0.eq]; unfold rtx1; rw [hn0]; rfl) (numR_le hn0).1
    have R2 := R1.put_exp n hn rtx2 R1.eq
    obtain ⟨c1, c2, c3, c4, c5, c6, c7, c8, c9, c10, c11⟩ := R1.walk
    clear h1 o1
    replace R0 := Box.mk R0
    replace R1 := Box.mk R1
    replace hn := Box.mk hn
    go_wp2_with fail
    clear c1 c2 c3 c4 c5 c6 c7 c8 c9 c10 c11
    generalize w1.setCell ⟨W.heap.size, 0, none⟩ (.int .u32 n) = w2 at *
    refine (many_any R2.rd R2.len).mono ?_
    rcases hn1 : manyR r0 with x | ⟨ni, r1⟩
    · have hx : txR s = .error x := by rw [R2.eq]; unfold rtx2; rw [hn1]; rfl
      replace hx := Box.mk hx
      replace R2 := Box.mk R2
      rintro e w' ⟨rfl, o⟩
      go_wp2
      exact read_dies hx.out rfl rfl rfl R2.out.j R2.out.below o
    · rintro e w3 ⟨v, rfl, rfl, h1, o1⟩
      have hm_ni := (manyR_le hn1).2
      have R3 := R2.next o1 h1 (fun d q => thenR (listR ptR ni q) fun l q => rtx3 { d with ins := l } q) (by rw [R2.eq]; unfold rtx2; rw [hn1]; rfl) (manyR_le hn1).1
      obtain ⟨c1, c2, c3, c4, c5, c6, c7, c8, c9, c10, c11⟩ := R3.walk
      clear h1 o1
      replace R2 := Box.mk R2
      go_wp2_with fail
      clear c1 c2 c3 c4 c5 c6 c7 c8 c9 c10 c11
      refine (list_pt_any ni R3.rd R3.pb hm_ni R3.len).mono ?_
      rcases hn2 : listR ptR ni r1 with x | ⟨li, r2⟩
      · have hx : txR s = .error x := by rw [R3.eq];  rw [hn2]; rfl
        replace hx := Box.mk hx
        replace R3 := Box.mk R3
        rintro e w' ⟨rfl, o⟩
        go_wp2
        exact read_dies hx.out rfl rfl rfl R3.out.j R3.out.below o
      · rintro e w4 ⟨v, rfl, ⟨a_li, n_li, c_li, rfl, hown⟩, h1, o1⟩
        have R4 := R3.next o1 h1 (fun d q => rtx3 { d with ins := li } q) (by rw [R3.eq, hn2]; rfl) (listR_le (fun _ _ _ h => ptR_le h) _ _ _ _ hn2).1
        have R5 := R4.put_ins (hown.mono (by have := R3.cells.2.1; omega)) (listR_all (fun _ _ _ h => ptR_idx h) _ _ _ _ hn2) rtx3 R4.eq
        obtain ⟨c1, c2, c3, c4, c5, c6, c7, c8, c9, c10, c11⟩ := R4.walk
        clear h1 o1 hown
        replace R3 := Box.mk R3
        replace R4 := Box.mk R4
        go_wp2_with fail
        clear c1 c2 c3 c4 c5 c6 c7 c8 c9 c10 c11
        generalize w4.setCell ⟨W.heap.size, 1, none⟩ (.slice a_li n_li c_li) = w5 at *
        refine (many_any R5.rd R5.len).mono ?_
        rcases hn3 : manyR r2 with x | ⟨no, r3⟩
        · have hx : txR s = .error x := by rw [R5.eq]; unfold rtx3; rw [hn3]; rfl
          replace hx := Box.mk hx
          replace R5 := Box.mk R5
          rintro e w' ⟨rfl, o⟩
          go_wp2
          exact read_dies hx.out rfl rfl rfl R5.out.j R5.out.below o
        · rintro e w6 ⟨v, rfl, rfl, h1, o1⟩
          have hm_no := (manyR_le hn3).2
          have R6 := R5.next o1 h1 (fun d q => thenR (listR outR no q) fun l q => rtx4 { d with outs := l } q) (by rw [R5.eq]; unfold rtx3; rw [hn3]; rfl) (manyR_le hn3).1
          obtain ⟨c1, c2, c3, c4, c5, c6, c7, c8, c9, c10, c11⟩ := R6.walk
          clear h1 o1
          replace R5 := Box.mk R5
          go_wp2_with fail
          clear c1 c2 c3 c4 c5 c6 c7 c8 c9 c10 c11
          refine (list_out_any no R6.rd R6.pb hm_no R6.len).mono ?_
          rcases hn4 : listR outR no r3 with x | ⟨lo, r4⟩
          · have hx : txR s = .error x := by rw [R6.eq];  rw [hn4]; rfl
            replace hx := Box.mk hx
            replace R6 := Box.mk R6
            rintro e w' ⟨rfl, o⟩
            go_wp2
            exact read_dies hx.out rfl rfl rfl R6.out.j R6.out.below o
          · rintro e w7 ⟨v, rfl, ⟨a_lo, n_lo, c_lo, rfl, hown⟩, h1, o1⟩
            have R7 := R6.next o1 h1 (fun d q => rtx4 { d with outs := lo } q) (by rw [R6.eq, hn4]; rfl) (listR_le (fun _ _ _ h => outR_le h) _ _ _ _ hn4).1
            have R8 := R7.put_outs (hown.mono (by have := R6.cells.2.1; omega)) (listR_all (fun _ _ _ h => outR_val h) _ _ _ _ hn4) rtx4 R7.eq
            obtain ⟨c1, c2, c3, c4, c5, c6, c7, c8, c9, c10, c11⟩ := R7.walk
            clear h1 o1 hown
            replace R6 := Box.mk R6
            replace R7 := Box.mk R7
            go_wp2_with fail
            clear c1 c2 c3 c4 c5 c6 c7 c8 c9 c10 c11
            generalize w7.setCell ⟨W.heap.size, 2, none⟩ (.slice a_lo n_lo c_lo) = w8 at *
            refine (many_any R8.rd R8.len).mono ?_
            rcases hn5 : manyR r4 with x | ⟨nn, r5⟩
            · have hx : txR s = .error x := by rw [R8.eq]; unfold rtx4; rw [hn5]; rfl
              replace hx := Box.mk hx
              replace R8 := Box.mk R8
              rintro e w' ⟨rfl, o⟩
              go_wp2
              exact read_dies hx.out rfl rfl rfl R8.out.j R8.out.below o
            · rintro e w9 ⟨v, rfl, rfl, h1, o1⟩
              have hm_nn := (manyR_le hn5).2
              have R9 := R8.next o1 h1 (fun d q => thenR (anchorR nn q) fun k q => thenR (listR keyR nn q) fun l q => rtx5 { d with anchor := k, nulls := l } q) (by rw [R8.eq]; unfold rtx4; rw [hn5]; rfl) (manyR_le hn5).1
              obtain ⟨c1, c2, c3, c4, c5, c6, c7, c8, c9, c10, c11⟩ := R9.walk
              clear h1 o1
              replace R8 := Box.mk R8
              have hlast : ∀ (w10 : World) (t : TxV) (d : TxD) (q : List UInt8), RI W s rtx5 t d q w10 → True := fun _ _ _ _ _ => trivial
              clear hlast
              by_cases h0 : nn = 0
              · have h0' : ¬ (0 : Int) < (nn : Int) := by omega
                have R10 := R9.re rtx5 (by rw [R9.eq]; unfold anchorR; rw [if_neg (by omega), thenR_ok]; subst h0; rfl)
                replace R9 := Box.mk R9
                replace h0 := Box.mk h0
                obtain ⟨t10, ht10⟩ : ∃ t, t = t := ⟨zeroTx, rfl⟩
                clear ht10 t10
                go_wp2_with fail
                clear c1 c2 c3 c4 c5 c6 c7 c8 c9 c10 c11
                skip
                have hall : ∀ w', Oth2 (W.heap.size + 1 + 1 + 1) W.heap.size w9 w' → (w'.cell? ⟨W.heap.size + 1 + 1 + 1 + 1, 0, none⟩ = some (.pointer (some ⟨W.heap.size + 1 + 1 + 1, 0, none⟩)) ∧ W.heap.size + 1 + 1 + 1 + 1 < w'.heap.size) := fun w' h =>
                  ⟨by rw [cell_of_row w' _ 0 _ _ _ (h.keep R10.pb.1 (by omega) (by omega))]; rfl, by have := h.size; have := R10.cells.2.1; omega⟩
                rcases hn8 : manyR r5 with x | ⟨nt, q1⟩
                · have hx : txR s = .error x := by rw [R10.eq]; unfold rtx5; rw [hn8]; rfl
                  replace hx := Box.mk hx
                  replace R10 := Box.mk R10
                  refine hreg_begin_d (T := fun c w' => c = dead x ∧ Oth (W.heap.size + 1 + 1 + 1) w9 w') (read_dies_at hx.out R10.out) (S := Oth2 (W.heap.size + 1 + 1 + 1) W.heap.size w9) (by kernel_rfl) (Oth2.refl _ _ _).drew (fun hHeld => ?_)
                  simp only [List.length_cons, List.length_nil, Nat.zero_add, Nat.reduceAdd, Array.replicate]
                  refine hreg_take (i := 0) rfl (by kernel_rfl) (by kernel_rfl) (by kernel_rfl) (hreg_panic_d (by decide)) (by rfl) hHeld ?_
                  apply Exists.intro
                  refine ⟨fun w' hw' => ?_, ?_⟩
                  · have hf := hall w' hw'
                    go_simp
                    try go_bits
                    exact yieldsV_mk rfl
                  simp only [Act.put, List.setIfInBounds_toArray, List.set_cons_zero, List.set_cons_succ]
                  refine hreg_take (i := 2) rfl (by kernel_rfl) (by kernel_rfl) (by kernel_rfl) (hreg_panic_d (by decide)) (by rfl) hHeld ?_
                  apply Exists.intro
                  refine ⟨fun w' hw' => ?_, ?_⟩
                  · have hf := hall w' hw'
                    go_simp
                    try go_bits
                    exact yieldsV_mk rfl
                  simp only [Act.put, List.setIfInBounds_toArray, List.set_cons_zero, List.set_cons_succ]
                  refine hreg_take (i := 3) rfl (by kernel_rfl) (by kernel_rfl) (by kernel_rfl) (hreg_panic_d (by decide)) (by rfl) hHeld ?_
                  apply Exists.intro
                  refine ⟨fun w' hw' => ?_, ?_⟩
                  · have hf := hall w' hw'
                    go_simp
                    try go_bits
                    exact yieldsV_mk rfl
                  simp only [Act.put, List.setIfInBounds_toArray, List.set_cons_zero, List.set_cons_succ]
                  refine wpAnyH_ready (rs := [1]) (by kernel_rfl) (by simp) ?_
                  refine hreg_event (o := _) rfl (by rfl) (fun K hK => ?_) ?_
                  · go_simp
                    first
                      | (go_at_call 95; refine (many_any (R10.out.rd.below (Below.refl _ _).drew) R10.out.len).mono ?_; rw [hn8]; rintro e wn ⟨rfl, on⟩; exact ⟨rfl, rfl, rfl, rfl, rfl, (Oth.refl _ _).drew.trans on⟩)
                      | fail "die 1"
                  exact AllReadyH.nil
                · have hm_nt := (manyR_le hn8).2
                  have hl1 := (manyR_le hn8).1
                  have hlq : q1.length ≤ 1000000 := by have := R10.len; omega
                  have hE := R10.eq
                  unfold rtx5 at hE
                  rw [hn8, thenR_ok] at hE
                  rcases hn9 : listR keyR nt q1 with x | ⟨lt, q2⟩
                  · have hx : txR s = .error x := by rw [hE, hn9]; rfl
                    replace hx := Box.mk hx
                    replace R10 := Box.mk R10
                    refine hreg_begin_d (T := fun c w' => c = dead x ∧ Oth (W.heap.size + 1 + 1 + 1) w9 w') (read_dies_at hx.out R10.out) (S := Oth2 (W.heap.size + 1 + 1 + 1) W.heap.size w9) (by kernel_rfl) (Oth2.refl _ _ _).drew (fun hHeld => ?_)
                    simp only [List.length_cons, List.length_nil, Nat.zero_add, Nat.reduceAdd, Array.replicate]
                    refine hreg_take (i := 0) rfl (by kernel_rfl) (by kernel_rfl) (by kernel_rfl) (hreg_panic_d (by decide)) (by rfl) hHeld ?_
                    apply Exists.intro
                    refine ⟨fun w' hw' => ?_, ?_⟩
                    · have hf := hall w' hw'
                      go_simp
                      try go_bits
                      exact yieldsV_mk rfl
                    simp only [Act.put, List.setIfInBounds_toArray, List.set_cons_zero, List.set_cons_succ]
                    refine hreg_take (i := 2) rfl (by kernel_rfl) (by kernel_rfl) (by kernel_rfl) (hreg_panic_d (by decide)) (by rfl) hHeld ?_
                    apply Exists.intro
                    refine ⟨fun w' hw' => ?_, ?_⟩
                    · have hf := hall w' hw'
                      go_simp
                      try go_bits
                      exact yieldsV_mk rfl
                    simp only [Act.put, List.setIfInBounds_toArray, List.set_cons_zero, List.set_cons_succ]
                    refine hreg_take (i := 3) rfl (by kernel_rfl) (by kernel_rfl) (by kernel_rfl) (hreg_panic_d (by decide)) (by rfl) hHeld ?_
                    apply Exists.intro
                    refine ⟨fun w' hw' => ?_, ?_⟩
                    · have hf := hall w' hw'
                      go_simp
                      try go_bits
                      exact yieldsV_mk rfl
                    simp only [Act.put, List.setIfInBounds_toArray, List.set_cons_zero, List.set_cons_succ]
                    refine wpAnyH_ready (rs := [1]) (by kernel_rfl) (by simp) ?_
                    refine hreg_event (o := _) rfl (by rfl) (fun K hK => ?_) ?_
                    · go_simp
                      first
                        | (go_at_call 95; refine (many_any (R10.out.rd.below (Below.refl _ _).drew) R10.out.len).mono ?_; rw [hn8]; rintro e wn ⟨v, rfl, rfl, hrn, on⟩; replace on := (Oth.refl _ w9).drew.trans on)
                        | skip
                      refine hK.out _ _ ?_ (fun hHeld' => ?_)
                      · first
                          | exact Oth2.of on
                          | exact hHeld.next hb
                          | exact hHeld
                          | exact hHeld.alloc _
                          | exact hHeld.setCell (by simp <;> omega) _
                          | exact (hHeld.alloc _).alloc _
                      replace hHeld := hHeld'
                      clear hHeld' hK K
                      simp only [Act.put, List.setIfInBounds_toArray, List.set_cons_zero, List.set_cons_succ]
                      refine wpAnyH_ready (rs := [4]) (by kernel_rfl) (by simp) ?_
                      refine hreg_event (o := _) rfl (by rfl) (fun K hK => ?_) ?_
                      · go_simp
                        first
                          | (go_at_call 100; refine (list_key_any nt hrn (R10.out.pb.oth on) hm_nt hlq).mono ?_; rw [hn9]; rintro e wn2 ⟨rfl, on2⟩; exact ⟨rfl, rfl, rfl, rfl, rfl, on.trans on2⟩)
                          | fail "die 4"
                      exact AllReadyH.nil
                    exact AllReadyH.nil
                  · have hcp : ∀ w', Oth (W.heap.size + 1 + 1 + 1) w9 w' → (∃ v, w'.cell? ⟨W.heap.size, 36, none⟩ = some v) ∧ w'.frozen? ⟨W.heap.size, 36, none⟩ = false := fun w' h =>
                      ⟨⟨_, (tx_all (h.keep R10.j.tx (by omega))).2.2.2.2.2.2.1⟩, frozen_of_row w' _ 36 _ _ (h.keep R10.j.tx (by omega))⟩
                    replace hE := Box.mk hE
                    replace R10 := Box.mk R10
                    refine hreg_begin (S := Oth2 (W.heap.size + 1 + 1 + 1) W.heap.size w9) (by kernel_rfl) (Oth2.refl _ _ _).drew (fun hHeld => ?_)
                    simp only [List.length_cons, List.length_nil, Nat.zero_add, Nat.reduceAdd, Array.replicate]
                    refine hreg_take (i := 0) rfl (by kernel_rfl) (by kernel_rfl) (by kernel_rfl) hreg_panic (by rfl) hHeld ?_
                    apply Exists.intro
                    refine ⟨fun w' hw' => ?_, ?_⟩
                    · have hf := hall w' hw'
                      go_simp
                      try go_bits
                      exact yieldsV_mk rfl
                    simp only [Act.put, List.setIfInBounds_toArray, List.set_cons_zero, List.set_cons_succ]
                    refine hreg_take (i := 2) rfl (by kernel_rfl) (by kernel_rfl) (by kernel_rfl) hreg_panic (by rfl) hHeld ?_
                    apply Exists.intro
                    refine ⟨fun w' hw' => ?_, ?_⟩
                    · have hf := hall w' hw'
                      go_simp
                      try go_bits
                      exact yieldsV_mk rfl
                    simp only [Act.put, List.setIfInBounds_toArray, List.set_cons_zero, List.set_cons_succ]
                    refine hreg_take (i := 3) rfl (by kernel_rfl) (by kernel_rfl) (by kernel_rfl) hreg_panic (by rfl) hHeld ?_
                    apply Exists.intro
                    refine ⟨fun w' hw' => ?_, ?_⟩
                    · have hf := hall w' hw'
                      go_simp
                      try go_bits
                      exact yieldsV_mk rfl
                    simp only [Act.put, List.setIfInBounds_toArray, List.set_cons_zero, List.set_cons_succ]
                    refine wpAnyH_ready (rs := [1]) (by kernel_rfl) (by simp) ?_
                    refine hreg_event (o := _) rfl (by rfl) (fun K hK => ?_) ?_
                    · go_simp
                      first
                        | (go_at_call 95; refine (many_any (R10.out.rd.below (Below.refl _ _).drew) R10.out.len).mono ?_; rw [hn8]; rintro e wn ⟨v, rfl, rfl, hrn, on⟩; replace on := (Oth.refl _ w9).drew.trans on)
                        | skip
                      refine hK.out _ _ ?_ (fun hHeld' => ?_)
                      · first
                          | exact Oth2.of on
                          | exact ⟨(Oth2.setCells (Oth2.of (on.trans on2)) 36 [.slice a_lt n_lt c_lt]).all, (Oth2.setCells (Oth2.of (on.trans on2)) 36 [.slice a_lt n_lt c_lt]).block⟩
                          | exact hHeld.next hb
                          | exact hHeld
                          | exact hHeld.alloc _
                          | exact hHeld.setCell (by simp <;> omega) _
                          | exact (hHeld.alloc _).alloc _
                      replace hHeld := hHeld'
                      clear hHeld' hK K
                      simp only [Act.put, List.setIfInBounds_toArray, List.set_cons_zero, List.set_cons_succ]
                      refine wpAnyH_ready (rs := [4]) (by kernel_rfl) (by simp) ?_
                      refine hreg_event (o := _) rfl (by rfl) (fun K hK => ?_) ?_
                      · go_simp
                        first
                          | (go_at_call 100; refine (list_key_any nt hrn (R10.out.pb.oth on) hm_nt hlq).mono ?_; rw [hn9]; rintro e wn2 ⟨v, rfl, ⟨a_lt, n_lt, c_lt, rfl, hown⟩, hrn2, on2⟩; obtain ⟨⟨v36, hv36⟩, hf36⟩ := hcp _ (on.trans on2))
                          | skip
                        refine hK.out _ _ ?_ (fun hHeld' => ?_)
                        · first
                            | exact Oth2.of (on.trans on2)
                            | exact ⟨(Oth2.setCells (Oth2.of (on.trans on2)) 36 [.slice a_lt n_lt c_lt]).all, (Oth2.setCells (Oth2.of (on.trans on2)) 36 [.slice a_lt n_lt c_lt]).block⟩
                            | exact hHeld.next hb
                            | exact hHeld
                            | exact hHeld.alloc _
                            | exact hHeld.setCell (by simp <;> omega) _
                            | exact (hHeld.alloc _).alloc _
                        replace hHeld := hHeld'
                        clear hHeld' hK K
                        simp only [Act.put, List.setIfInBounds_toArray, List.set_cons_zero, List.set_cons_succ]
                        refine hreg_take (i := 5) rfl (by kernel_rfl) (by kernel_rfl) (by kernel_rfl) hreg_panic (by rfl) hHeld ?_
                        apply Exists.intro
                        refine ⟨fun w' hw' => ?_, ?_⟩
                        · have hf := hall w' hw'
                          go_simp
                          try go_bits
                          exact yieldsV_mk rfl
                        simp only [Act.put, List.setIfInBounds_toArray, List.set_cons_zero, List.set_cons_succ]
                        refine wpAnyH_ready (rs := [6]) (by kernel_rfl) (by simp) ?_
                        refine hreg_event (o := _) rfl (by rfl) (fun K hK => ?_) ?_
                        · go_simp
                          first
                            | skip
                          refine hK.out _ _ ?_ (fun hHeld' => ?_)
                          · first
                              | exact ⟨(Oth2.setCells (Oth2.of (on.trans on2)) 36 [.slice a_lt n_lt c_lt]).all, (Oth2.setCells (Oth2.of (on.trans on2)) 36 [.slice a_lt n_lt c_lt]).block⟩
                              | exact hHeld.next hb
                              | exact hHeld
                              | exact hHeld.alloc _
                              | exact hHeld.setCell (by simp <;> omega) _
                              | exact (hHeld.alloc _).alloc _
                          replace hHeld := hHeld'
                          clear hHeld' hK K
                          simp only [Act.put, List.setIfInBounds_toArray, List.set_cons_zero, List.set_cons_succ]
                          refine wpAnyH_done (by kernel_rfl) ?_ _
                          refine NoPanic.normal ?_
                          clear hall hHeld hv36 hf36 hcp
                          have Ra := R10.out.next on hrn (fun d q => thenR (listR keyR nt q) fun l q => rtx6 { d with notes := l } q) hE.out hl1
                          have Rb := Ra.next on2 hrn2 (fun d q => rtx6 { d with notes := lt } q) (by rw [Ra.eq, hn9]; rfl) (listR_le (fun _ _ _ h => keyR_le h) _ _ _ _ hn9).1
                          have Rc := Rb.put_notes (hown.mono (by have := Ra.cells.2.1; omega)) rtx6 Rb.eq
                          clear hown hrn hrn2 on on2
                          replace Ra := Box.mk Ra
                          replace Rb := Box.mk Rb
                          obtain ⟨c1, c2, c3, c4, c5, c6, c7, c8, c9, c10, c11⟩ := Rc.walk
                          generalize wn2.setCell ⟨W.heap.size, 36, none⟩ (.slice a_lt n_lt c_lt) = wz at *
                          go_wp2_with fail
                          clear c1 c2 c3 c4 c5 c6 c7 c8 c9 c10 c11
                          refine (number8_any Rc.rd).mono ?_
                          rcases hna : numR 8 q2 with x | ⟨m, q3⟩
                          · have hx : txR s = .error x := by rw [Rc.eq]; unfold rtx6; rw [hna]; rfl
                            replace hx := Box.mk hx
                            replace Rc := Box.mk Rc
                            rintro e w' ⟨rfl, o⟩
                            go_wp2
                            exact read_dies hx.out rfl rfl rfl Rc.out.j Rc.out.below o
                          · rintro e wy ⟨v, rfl, rfl, h1, o1⟩
                            have Rd := Rc.next o1 h1 (fun d q => .ok ({ d with bal := i64N m }, q)) (by rw [Rc.eq]; unfold rtx6; rw [hna]; rfl) (numR_le hna).1
                            have Re := Rd.put_bal m (fun d q => .ok (d, q)) Rd.eq
                            have hw64 : wrap64 (m : Int) = i64N m := rfl
                            obtain ⟨c1, c2, c3, c4, c5, c6, c7, c8, c9, c10, c11⟩ := Rd.walk
                            obtain ⟨tz, dz, Rz⟩ : ∃ t d, RI W s (fun d q => .ok (d, q)) t d q3 (wy.setCell ⟨W.heap.size, 37, none⟩ (.int .i64 (i64N m))) := ⟨_, _, Re⟩
                            clear h1 o1 Re
                            replace Rc := Box.mk Rc
                            replace Rd := Box.mk Rd
                            replace Rz := Box.mk Rz
                            go_wp2_with fail
                            clear c1 c2 c3 c4 c5 c6 c7 c8 c9 c10 c11 hw64
                            generalize wy.setCell ⟨W.heap.size, 37, none⟩ (.int .i64 (i64N m)) = wx at *
                            have hall : ∀ w', FR W.heap.size tz wx w' → (rowOf w' W.heap.size 0 38 = some (txC tz) ∧ w'.cell? ⟨W.heap.size + 1 + 1 + 1 + 1, 0, none⟩ = some (.pointer (some ⟨W.heap.size + 1 + 1 + 1, 0, none⟩)) ∧ W.heap.size + 1 + 1 + 1 + 1 < w'.heap.size ∧ w'.cell? ⟨W.heap.size + 1 + 1 + 1, 0, none⟩ = some (.string (sB q3)) ∧ W.heap.size + 1 + 1 + 1 < w'.heap.size ∧ W.heap.size < w'.heap.size) := fun w' h => by
                              have p1 := (h.other _ (by omega) (by omega) (by omega)).trans Rz.out.pb.1
                              have p2 := (h.other _ (by omega) (by omega) (by omega)).trans Rz.out.rd.heap
                              have p3 := (Array.getElem?_eq_some_iff.1 p1).1
                              exact ⟨tx_row h.tx, by rw [cell_of_row w' _ 0 _ _ _ p1]; rfl, p3, by rw [cell_of_row w' _ 0 _ _ _ p2]; rfl, by omega, by omega⟩
                            refine hreg_begin (S := FR W.heap.size tz wx) (by kernel_rfl) (FR.start Rz.out.j) (fun hHeld => ?_)
                            simp only [List.length_cons, List.length_nil, Nat.zero_add, Nat.reduceAdd, Array.replicate]
                            refine hreg_take (i := 0) rfl (by kernel_rfl) (by kernel_rfl) (by kernel_rfl) hreg_panic (by rfl) hHeld ?_
                            apply Exists.intro
                            refine ⟨fun w' hw' => ?_, ?_⟩
                            · have hf := hall w' hw'
                              go_simp
                              try go_bits
                              exact yieldsV_mk rfl
                            simp only [Act.put, List.setIfInBounds_toArray, List.set_cons_zero, List.set_cons_succ]
                            refine hreg_take (i := 1) rfl (by kernel_rfl) (by kernel_rfl) (by kernel_rfl) hreg_panic (by rfl) hHeld ?_
                            apply Exists.intro
                            refine ⟨fun w' hw' => ?_, ?_⟩
                            · have hf := hall w' hw'
                              go_simp
                              try go_bits
                              exact yieldsV_mk rfl
                            simp only [Act.put, List.setIfInBounds_toArray, List.set_cons_zero, List.set_cons_succ]
                            refine hreg_take (i := 2) rfl (by kernel_rfl) (by kernel_rfl) (by kernel_rfl) hreg_panic (by rfl) hHeld ?_
                            apply Exists.intro
                            refine ⟨fun w' hw' => ?_, ?_⟩
                            · have hf := hall w' hw'
                              go_simp
                              try go_bits
                              exact yieldsV_mk rfl
                            simp only [Act.put, List.setIfInBounds_toArray, List.set_cons_zero, List.set_cons_succ]
                            refine hreg_take (i := 3) rfl (by kernel_rfl) (by kernel_rfl) (by kernel_rfl) hreg_panic (by rfl) hHeld ?_
                            apply Exists.intro
                            refine ⟨fun w' hw' => ?_, ?_⟩
                            · have hf := hall w' hw'
                              go_simp
                              try go_bits
                              exact yieldsV_mk rfl
                            simp only [Act.put, List.setIfInBounds_toArray, List.set_cons_zero, List.set_cons_succ]
                            refine hreg_take (i := 4) rfl (by kernel_rfl) (by kernel_rfl) (by kernel_rfl) hreg_panic (by rfl) hHeld ?_
                            apply Exists.intro
                            refine ⟨fun w' hw' => ?_, ?_⟩
                            · have hf := hall w' hw'
                              go_simp
                              try go_bits
                              exact yieldsV_mk rfl
                            simp only [Act.put, List.setIfInBounds_toArray, List.set_cons_zero, List.set_cons_succ]
                            refine wpAnyH_ready (rs := [5]) (by kernel_rfl) (by simp) ?_
                            refine hreg_event (o := _) rfl (by rfl) (fun K hK => ?_) ?_
                            · go_simp
                              first
                                | (have f1 := hHeld.canTx; rw [canPut_drew] at f1; go_simp)
                                | (obtain ⟨r1, f2, f3, f6⟩ := hHeld.canRest; obtain ⟨r2, f4, f5, f7⟩ := hHeld.canEr; go_simp)
                                | skip
                              refine hK.out _ _ ?_ (fun hHeld' => ?_)
                              · first
                                  | exact hHeld.putTx
                                  | exact hHeld.putRest _
                                  | exact hHeld.putEr _
                                  | exact hHeld.next hb
                                  | exact hHeld
                                  | exact hHeld.alloc _
                                  | exact hHeld.setCell (by simp <;> omega) _
                                  | exact (hHeld.alloc _).alloc _
                              replace hHeld := hHeld'
                              clear hHeld' hK K
                              simp only [Act.put, List.setIfInBounds_toArray, List.set_cons_zero, List.set_cons_succ]
                              refine wpAnyH_ready (rs := [6]) (by kernel_rfl) (by simp) ?_
                              refine hreg_event (o := _) rfl (by rfl) (fun K hK => ?_) ?_
                              · go_simp
                                first
                                  | (have f1 := hHeld.canTx; rw [canPut_drew] at f1; go_simp)
                                  | (obtain ⟨r1, f2, f3, f6⟩ := hHeld.canRest; obtain ⟨r2, f4, f5, f7⟩ := hHeld.canEr; go_simp)
                                  | skip
                                refine hK.out _ _ ?_ (fun hHeld' => ?_)
                                · first
                                    | exact hHeld.putTx
                                    | exact hHeld.putRest _
                                    | exact hHeld.putEr _
                                    | exact hHeld.next hb
                                    | exact hHeld
                                    | exact hHeld.alloc _
                                    | exact hHeld.setCell (by simp <;> omega) _
                                    | exact (hHeld.alloc _).alloc _
                                replace hHeld := hHeld'
                                clear hHeld' hK K
                                simp only [Act.put, List.setIfInBounds_toArray, List.set_cons_zero, List.set_cons_succ]
                                refine wpAnyH_ready (rs := [7]) (by kernel_rfl) (by simp) ?_
                                refine hreg_event (o := _) rfl (by rfl) (fun K hK => ?_) ?_
                                · go_simp
                                  first
                                    | (have f1 := hHeld.canTx; rw [canPut_drew] at f1; go_simp)
                                    | (obtain ⟨r1, f2, f3, f6⟩ := hHeld.canRest; obtain ⟨r2, f4, f5, f7⟩ := hHeld.canEr; go_simp)
                                    | skip
                                  refine hK.out _ _ ?_ (fun hHeld' => ?_)
                                  · first
                                      | exact hHeld.putTx
                                      | exact hHeld.putRest _
                                      | exact hHeld.putEr _
                                      | exact hHeld.next hb
                                      | exact hHeld
                                      | exact hHeld.alloc _
                                      | exact hHeld.setCell (by simp <;> omega) _
                                      | exact (hHeld.alloc _).alloc _
                                  replace hHeld := hHeld'
                                  clear hHeld' hK K
                                  simp only [Act.put, List.setIfInBounds_toArray, List.set_cons_zero, List.set_cons_succ]
                                  refine wpAnyH_done (by kernel_rfl) ?_ _
                                  refine NoPanic.normal ?_
                                  have J := (FR.start Rz.out.j).last q3 0
                                  go_wp2
                                  refine leaves_cons (f := 92) (args := #[.pointer (some ⟨W.heap.size, 0, none⟩), .pointer (some ⟨W.heap.size + 1, 0, none⟩), .pointer (some ⟨W.heap.size + 1 + 1, 0, none⟩)]) (by simp) (by simp [go_sem]) ?_
                                  refine read_idle.mono ?_
                                  rintro e u' w'' ⟨rfl, rfl, hb4⟩
                                  show ∃ v, (results _ _).run _ _ = .ok v _ ∧ _
                                  refine ⟨_, read_results (B := W.heap.size) rfl rfl rfl ⟨keepBlock hb4 J.tx, keepBlock hb4 J.rest, keepBlock hb4 J.er⟩, ?_⟩
                                  rw [Rz.out.eq]
                                  exact ⟨tz, rfl, (Rz.out.txlF hHeld).below hb4, (Rz.out.below.trans hHeld.below).trans (hb4.mono (by have := hHeld.below.size; have := Rz.out.cells.2.2; omega))⟩
                                exact AllReadyH.nil
                              exact AllReadyH.nil
                            exact AllReadyH.nil
                        exact AllReadyH.nil
                      exact AllReadyH.nil
                    exact AllReadyH.nil
              · have h0' : (0 : Int) < (nn : Int) := by omega
                have R10 := R9.re (fun d q => thenR (keyR q) fun k q => thenR (listR keyR nn q) fun l q => rtx5 { d with anchor := k, nulls := l } q) (by rw [R9.eq]; unfold anchorR; rw [if_pos (by omega)])
                replace R9 := Box.mk R9
                replace h0 := Box.mk h0
                go_wp2_with fail
                clear c1 c2 c3 c4 c5 c6 c7 c8 c9 c10 c11
                refine (rkey_any R10.rd R10.len).mono ?_
                rcases hn6 : keyR r5 with x | ⟨ka, r6⟩
                · have hx : txR s = .error x := by rw [R10.eq, hn6]; rfl
                  replace hx := Box.mk hx
                  replace R10 := Box.mk R10
                  rintro e w' ⟨rfl, o⟩
                  go_wp2
                  exact read_dies hx.out rfl rfl rfl R10.out.j R10.out.below o
                · rintro e w10 ⟨v, rfl, rfl, h1, o1⟩
                  have R11 := R10.next o1 h1 (fun d q => thenR (listR keyR nn q) fun l q => rtx5 { d with anchor := ka, nulls := l } q) (by rw [R10.eq, hn6]; rfl) (keyR_le hn6)
                  have R12 := R11.put_anchor ka (fun d q => thenR (listR keyR nn q) fun l q => rtx5 { d with nulls := l } q) R11.eq
                  obtain ⟨c1, c2, c3, c4, c5, c6, c7, c8, c9, c10, c11⟩ := R11.walk
                  have d1 := R12.cells.1
                  have d2 := R12.cells.2.1
                  have d3 := R12.cells.2.2
                  clear h1 o1
                  replace R10 := Box.mk R10
                  replace R11 := Box.mk R11
                  go_wp2_with fail
                  clear c1 c2 c3 c4 c5 c6 c7 c8 c9 c10 c11 d1 d2 d3
                  generalize w10.setCells W.heap.size 3 (keyC ka) = w12 at *
                  refine (list_key_any nn R12.rd R12.pb hm_nn R12.len).mono ?_
                  rcases hn7 : listR keyR nn r6 with x | ⟨ln, r7⟩
                  · have hx : txR s = .error x := by rw [R12.eq, hn7]; rfl
                    replace hx := Box.mk hx
                    replace R12 := Box.mk R12
                    rintro e w' ⟨rfl, o⟩
                    go_wp2
                    exact read_dies hx.out rfl rfl rfl R12.out.j R12.out.below o
                  · rintro e w13 ⟨v, rfl, ⟨a_ln, n_ln, c_ln, rfl, hown⟩, h1, o1⟩
                    have R13 := R12.next o1 h1 (fun d q => rtx5 { d with nulls := ln } q) (by rw [R12.eq, hn7]; rfl) (listR_le (fun _ _ _ h => keyR_le h) _ _ _ _ hn7).1
                    have R14 := R13.put_nulls (hown.mono (by have := R12.cells.2.1; omega)) rtx5 R13.eq
                    obtain ⟨c1, c2, c3, c4, c5, c6, c7, c8, c9, c10, c11⟩ := R13.walk
                    clear h1 o1 hown
                    replace R12 := Box.mk R12
                    replace R13 := Box.mk R13
                    go_wp2_with fail
                    clear c1 c2 c3 c4 c5 c6 c7 c8 c9 c10 c11
                    generalize w13.setCell ⟨W.heap.size, 35, none⟩ (.slice a_ln n_ln c_ln) = w14 at *
                    have hall : ∀ w', Oth2 (W.heap.size + 1 + 1 + 1) W.heap.size w14 w' → (w'.cell? ⟨W.heap.size + 1 + 1 + 1 + 1, 0, none⟩ = some (.pointer (some ⟨W.heap.size + 1 + 1 + 1, 0, none⟩)) ∧ W.heap.size + 1 + 1 + 1 + 1 < w'.heap.size) := fun w' h =>
                      ⟨by rw [cell_of_row w' _ 0 _ _ _ (h.keep R14.pb.1 (by omega) (by omega))]; rfl, by have := h.size; have := R14.cells.2.1; omega⟩
                    rcases hn8 : manyR r7 with x | ⟨nt, q1⟩
                    · have hx : txR s = .error x := by rw [R14.eq]; unfold rtx5; rw [hn8]; rfl
                      replace hx := Box.mk hx
                      replace R14 := Box.mk R14
                      refine hreg_begin_d (T := fun c w' => c = dead x ∧ Oth (W.heap.size + 1 + 1 + 1) w14 w') (read_dies_at hx.out R14.out) (S := Oth2 (W.heap.size + 1 + 1 + 1) W.heap.size w14) (by kernel_rfl) (Oth2.refl _ _ _).drew (fun hHeld => ?_)
                      simp only [List.length_cons, List.length_nil, Nat.zero_add, Nat.reduceAdd, Array.replicate]
                      refine hreg_take (i := 0) rfl (by kernel_rfl) (by kernel_rfl) (by kernel_rfl) (hreg_panic_d (by decide)) (by rfl) hHeld ?_
                      apply Exists.intro
                      refine ⟨fun w' hw' => ?_, ?_⟩
                      · have hf := hall w' hw'
                        go_simp
                        try go_bits
                        exact yieldsV_mk rfl
                      simp only [Act.put, List.setIfInBounds_toArray, List.set_cons_zero, List.set_cons_succ]
                      refine hreg_take (i := 2) rfl (by kernel_rfl) (by kernel_rfl) (by kernel_rfl) (hreg_panic_d (by decide)) (by rfl) hHeld ?_
                      apply Exists.intro
                      refine ⟨fun w' hw' => ?_, ?_⟩
                      · have hf := hall w' hw'
                        go_simp
                        try go_bits
                        exact yieldsV_mk rfl
                      simp only [Act.put, List.setIfInBounds_toArray, List.set_cons_zero, List.set_cons_succ]
                      refine hreg_take (i := 3) rfl (by kernel_rfl) (by kernel_rfl) (by kernel_rfl) (hreg_panic_d (by decide)) (by rfl) hHeld ?_
                      apply Exists.intro
                      refine ⟨fun w' hw' => ?_, ?_⟩
                      · have hf := hall w' hw'
                        go_simp
                        try go_bits
                        exact yieldsV_mk rfl
                      simp only [Act.put, List.setIfInBounds_toArray, List.set_cons_zero, List.set_cons_succ]
                      refine wpAnyH_ready (rs := [1]) (by kernel_rfl) (by simp) ?_
                      refine hreg_event (o := _) rfl (by rfl) (fun K hK => ?_) ?_
                      · go_simp
                        first
                          | (go_at_call 95; refine (many_any (R14.out.rd.below (Below.refl _ _).drew) R14.out.len).mono ?_; rw [hn8]; rintro e wn ⟨rfl, on⟩; exact ⟨rfl, rfl, rfl, rfl, rfl, (Oth.refl _ _).drew.trans on⟩)
                          | fail "die 1"
                      exact AllReadyH.nil
                    · have hm_nt := (manyR_le hn8).2
                      have hl1 := (manyR_le hn8).1
                      have hlq : q1.length ≤ 1000000 := by have := R14.len; omega
                      have hE := R14.eq
                      unfold rtx5 at hE
                      rw [hn8, thenR_ok] at hE
                      rcases hn9 : listR keyR nt q1 with x | ⟨lt, q2⟩
                      · have hx : txR s = .error x := by rw [hE, hn9]; rfl
                        replace hx := Box.mk hx
                        replace R14 := Box.mk R14
                        refine hreg_begin_d (T := fun c w' => c = dead x ∧ Oth (W.heap.size + 1 + 1 + 1) w14 w') (read_dies_at hx.out R14.out) (S := Oth2 (W.heap.size + 1 + 1 + 1) W.heap.size w14) (by kernel_rfl) (Oth2.refl _ _ _).drew (fun hHeld => ?_)
                        simp only [List.length_cons, List.length_nil, Nat.zero_add, Nat.reduceAdd, Array.replicate]
                        refine hreg_take (i := 0) rfl (by kernel_rfl) (by kernel_rfl) (by kernel_rfl) (hreg_panic_d (by decide)) (by rfl) hHeld ?_
                        apply Exists.intro
                        refine ⟨fun w' hw' => ?_, ?_⟩
                        · have hf := hall w' hw'
                          go_simp
                          try go_bits
                          exact yieldsV_mk rfl
                        simp only [Act.put, List.setIfInBounds_toArray, List.set_cons_zero, List.set_cons_succ]
                        refine hreg_take (i := 2) rfl (by kernel_rfl) (by kernel_rfl) (by kernel_rfl) (hreg_panic_d (by decide)) (by rfl) hHeld ?_
                        apply Exists.intro
                        refine ⟨fun w' hw' => ?_, ?_⟩
                        · have hf := hall w' hw'
                          go_simp
                          try go_bits
                          exact yieldsV_mk rfl
                        simp only [Act.put, List.setIfInBounds_toArray, List.set_cons_zero, List.set_cons_succ]
                        refine hreg_take (i := 3) rfl (by kernel_rfl) (by kernel_rfl) (by kernel_rfl) (hreg_panic_d (by decide)) (by rfl) hHeld ?_
                        apply Exists.intro
                        refine ⟨fun w' hw' => ?_, ?_⟩
                        · have hf := hall w' hw'
                          go_simp
                          try go_bits
                          exact yieldsV_mk rfl
                        simp only [Act.put, List.setIfInBounds_toArray, List.set_cons_zero, List.set_cons_succ]
                        refine wpAnyH_ready (rs := [1]) (by kernel_rfl) (by simp) ?_
                        refine hreg_event (o := _) rfl (by rfl) (fun K hK => ?_) ?_
                        · go_simp
                          first
                            | (go_at_call 95; refine (many_any (R14.out.rd.below (Below.refl _ _).drew) R14.out.len).mono ?_; rw [hn8]; rintro e wn ⟨v, rfl, rfl, hrn, on⟩; replace on := (Oth.refl _ w14).drew.trans on)
                            | skip
                          refine hK.out _ _ ?_ (fun hHeld' => ?_)
                          · first
                              | exact Oth2.of on
                              | exact hHeld.next hb
                              | exact hHeld
                              | exact hHeld.alloc _
                              | exact hHeld.setCell (by simp <;> omega) _
                              | exact (hHeld.alloc _).alloc _
                          replace hHeld := hHeld'
                          clear hHeld' hK K
                          simp only [Act.put, List.setIfInBounds_toArray, List.set_cons_zero, List.set_cons_succ]
                          refine wpAnyH_ready (rs := [4]) (by kernel_rfl) (by simp) ?_
                          refine hreg_event (o := _) rfl (by rfl) (fun K hK => ?_) ?_
                          · go_simp
                            first
                              | (go_at_call 100; refine (list_key_any nt hrn (R14.out.pb.oth on) hm_nt hlq).mono ?_; rw [hn9]; rintro e wn2 ⟨rfl, on2⟩; exact ⟨rfl, rfl, rfl, rfl, rfl, on.trans on2⟩)
                              | fail "die 4"
                          exact AllReadyH.nil
                        exact AllReadyH.nil
                      · have hcp : ∀ w', Oth (W.heap.size + 1 + 1 + 1) w14 w' → (∃ v, w'.cell? ⟨W.heap.size, 36, none⟩ = some v) ∧ w'.frozen? ⟨W.heap.size, 36, none⟩ = false := fun w' h =>
                          ⟨⟨_, (tx_all (h.keep R14.j.tx (by omega))).2.2.2.2.2.2.1⟩, frozen_of_row w' _ 36 _ _ (h.keep R14.j.tx (by omega))⟩
                        replace hE := Box.mk hE
                        replace R14 := Box.mk R14
                        refine hreg_begin (S := Oth2 (W.heap.size + 1 + 1 + 1) W.heap.size w14) (by kernel_rfl) (Oth2.refl _ _ _).drew (fun hHeld => ?_)
                        simp only [List.length_cons, List.length_nil, Nat.zero_add, Nat.reduceAdd, Array.replicate]
                        refine hreg_take (i := 0) rfl (by kernel_rfl) (by kernel_rfl) (by kernel_rfl) hreg_panic (by rfl) hHeld ?_
                        apply Exists.intro
                        refine ⟨fun w' hw' => ?_, ?_⟩
                        · have hf := hall w' hw'
                          go_simp
                          try go_bits
                          exact yieldsV_mk rfl
                        simp only [Act.put, List.setIfInBounds_toArray, List.set_cons_zero, List.set_cons_succ]
                        refine hreg_take (i := 2) rfl (by kernel_rfl) (by kernel_rfl) (by kernel_rfl) hreg_panic (by rfl) hHeld ?_
                        apply Exists.intro
                        refine ⟨fun w' hw' => ?_, ?_⟩
                        · have hf := hall w' hw'
                          go_simp
                          try go_bits
                          exact yieldsV_mk rfl
                        simp only [Act.put, List.setIfInBounds_toArray, List.set_cons_zero, List.set_cons_succ]
                        refine hreg_take (i := 3) rfl (by kernel_rfl) (by kernel_rfl) (by kernel_rfl) hreg_panic (by rfl) hHeld ?_
                        apply Exists.intro
                        refine ⟨fun w' hw' => ?_, ?_⟩
                        · have hf := hall w' hw'
                          go_simp
                          try go_bits
                          exact yieldsV_mk rfl
                        simp only [Act.put, List.setIfInBounds_toArray, List.set_cons_zero, List.set_cons_succ]
                        refine wpAnyH_ready (rs := [1]) (by kernel_rfl) (by simp) ?_
                        refine hreg_event (o := _) rfl (by rfl) (fun K hK => ?_) ?_
                        · go_simp
                          first
                            | (go_at_call 95; refine (many_any (R14.out.rd.below (Below.refl _ _).drew) R14.out.len).mono ?_; rw [hn8]; rintro e wn ⟨v, rfl, rfl, hrn, on⟩; replace on := (Oth.refl _ w14).drew.trans on)
                            | skip
                          refine hK.out _ _ ?_ (fun hHeld' => ?_)
                          · first
                              | exact Oth2.of on
                              | exact ⟨(Oth2.setCells (Oth2.of (on.trans on2)) 36 [.slice a_lt n_lt c_lt]).all, (Oth2.setCells (Oth2.of (on.trans on2)) 36 [.slice a_lt n_lt c_lt]).block⟩
                              | exact hHeld.next hb
                              | exact hHeld
                              | exact hHeld.alloc _
                              | exact hHeld.setCell (by simp <;> omega) _
                              | exact (hHeld.alloc _).alloc _
                          replace hHeld := hHeld'
                          clear hHeld' hK K
                          simp only [Act.put, List.setIfInBounds_toArray, List.set_cons_zero, List.set_cons_succ]
                          refine wpAnyH_ready (rs := [4]) (by kernel_rfl) (by simp) ?_
                          refine hreg_event (o := _) rfl (by rfl) (fun K hK => ?_) ?_
                          · go_simp
                            first
                              | (go_at_call 100; refine (list_key_any nt hrn (R14.out.pb.oth on) hm_nt hlq).mono ?_; rw [hn9]; rintro e wn2 ⟨v, rfl, ⟨a_lt, n_lt, c_lt, rfl, hown⟩, hrn2, on2⟩; obtain ⟨⟨v36, hv36⟩, hf36⟩ := hcp _ (on.trans on2))
                              | skip
                            refine hK.out _ _ ?_ (fun hHeld' => ?_)
                            · first
                                | exact Oth2.of (on.trans on2)
                                | exact ⟨(Oth2.setCells (Oth2.of (on.trans on2)) 36 [.slice a_lt n_lt c_lt]).all, (Oth2.setCells (Oth2.of (on.trans on2)) 36 [.slice a_lt n_lt c_lt]).block⟩
                                | exact hHeld.next hb
                                | exact hHeld
                                | exact hHeld.alloc _
                                | exact hHeld.setCell (by simp <;> omega) _
                                | exact (hHeld.alloc _).alloc _
                            replace hHeld := hHeld'
                            clear hHeld' hK K
                            simp only [Act.put, List.setIfInBounds_toArray, List.set_cons_zero, List.set_cons_succ]
                            refine hreg_take (i := 5) rfl (by kernel_rfl) (by kernel_rfl) (by kernel_rfl) hreg_panic (by rfl) hHeld ?_
                            apply Exists.intro
                            refine ⟨fun w' hw' => ?_, ?_⟩
                            · have hf := hall w' hw'
                              go_simp
                              try go_bits
                              exact yieldsV_mk rfl
                            simp only [Act.put, List.setIfInBounds_toArray, List.set_cons_zero, List.set_cons_succ]
                            refine wpAnyH_ready (rs := [6]) (by kernel_rfl) (by simp) ?_
                            refine hreg_event (o := _) rfl (by rfl) (fun K hK => ?_) ?_
                            · go_simp
                              first
                                | skip
                              refine hK.out _ _ ?_ (fun hHeld' => ?_)
                              · first
                                  | exact ⟨(Oth2.setCells (Oth2.of (on.trans on2)) 36 [.slice a_lt n_lt c_lt]).all, (Oth2.setCells (Oth2.of (on.trans on2)) 36 [.slice a_lt n_lt c_lt]).block⟩
                                  | exact hHeld.next hb
                                  | exact hHeld
                                  | exact hHeld.alloc _
                                  | exact hHeld.setCell (by simp <;> omega) _
                                  | exact (hHeld.alloc _).alloc _
                              replace hHeld := hHeld'
                              clear hHeld' hK K
                              simp only [Act.put, List.setIfInBounds_toArray, List.set_cons_zero, List.set_cons_succ]
                              refine wpAnyH_done (by kernel_rfl) ?_ _
                              refine NoPanic.normal ?_
                              clear hall hHeld hv36 hf36 hcp
                              have Ra := R14.out.next on hrn (fun d q => thenR (listR keyR nt q) fun l q => rtx6 { d with notes := l } q) hE.out hl1
                              have Rb := Ra.next on2 hrn2 (fun d q => rtx6 { d with notes := lt } q) (by rw [Ra.eq, hn9]; rfl) (listR_le (fun _ _ _ h => keyR_le h) _ _ _ _ hn9).1
                              have Rc := Rb.put_notes (hown.mono (by have := Ra.cells.2.1; omega)) rtx6 Rb.eq
                              clear hown hrn hrn2 on on2
                              replace Ra := Box.mk Ra
                              replace Rb := Box.mk Rb
                              obtain ⟨c1, c2, c3, c4, c5, c6, c7, c8, c9, c10, c11⟩ := Rc.walk
                              generalize wn2.setCell ⟨W.heap.size, 36, none⟩ (.slice a_lt n_lt c_lt) = wz at *
                              go_wp2_with fail
                              clear c1 c2 c3 c4 c5 c6 c7 c8 c9 c10 c11
                              refine (number8_any Rc.rd).mono ?_
                              rcases hna : numR 8 q2 with x | ⟨m, q3⟩
                              · have hx : txR s = .error x := by rw [Rc.eq]; unfold rtx6; rw [hna]; rfl
                                replace hx := Box.mk hx
                                replace Rc := Box.mk Rc
                                rintro e w' ⟨rfl, o⟩
                                go_wp2
                                exact read_dies hx.out rfl rfl rfl Rc.out.j Rc.out.below o
                              · rintro e wy ⟨v, rfl, rfl, h1, o1⟩
                                have Rd := Rc.next o1 h1 (fun d q => .ok ({ d with bal := i64N m }, q)) (by rw [Rc.eq]; unfold rtx6; rw [hna]; rfl) (numR_le hna).1
                                have Re := Rd.put_bal m (fun d q => .ok (d, q)) Rd.eq
                                have hw64 : wrap64 (m : Int) = i64N m := rfl
                                obtain ⟨c1, c2, c3, c4, c5, c6, c7, c8, c9, c10, c11⟩ := Rd.walk
                                obtain ⟨tz, dz, Rz⟩ : ∃ t d, RI W s (fun d q => .ok (d, q)) t d q3 (wy.setCell ⟨W.heap.size, 37, none⟩ (.int .i64 (i64N m))) := ⟨_, _, Re⟩
                                clear h1 o1 Re
                                replace Rc := Box.mk Rc
                                replace Rd := Box.mk Rd
                                replace Rz := Box.mk Rz
                                go_wp2_with fail
                                clear c1 c2 c3 c4 c5 c6 c7 c8 c9 c10 c11 hw64
                                generalize wy.setCell ⟨W.heap.size, 37, none⟩ (.int .i64 (i64N m)) = wx at *
                                have hall : ∀ w', FR W.heap.size tz wx w' → (rowOf w' W.heap.size 0 38 = some (txC tz) ∧ w'.cell? ⟨W.heap.size + 1 + 1 + 1 + 1, 0, none⟩ = some (.pointer (some ⟨W.heap.size + 1 + 1 + 1, 0, none⟩)) ∧ W.heap.size + 1 + 1 + 1 + 1 < w'.heap.size ∧ w'.cell? ⟨W.heap.size + 1 + 1 + 1, 0, none⟩ = some (.string (sB q3)) ∧ W.heap.size + 1 + 1 + 1 < w'.heap.size ∧ W.heap.size < w'.heap.size) := fun w' h => by
                                  have p1 := (h.other _ (by omega) (by omega) (by omega)).trans Rz.out.pb.1
                                  have p2 := (h.other _ (by omega) (by omega) (by omega)).trans Rz.out.rd.heap
                                  have p3 := (Array.getElem?_eq_some_iff.1 p1).1
                                  exact ⟨tx_row h.tx, by rw [cell_of_row w' _ 0 _ _ _ p1]; rfl, p3, by rw [cell_of_row w' _ 0 _ _ _ p2]; rfl, by omega, by omega⟩
                                refine hreg_begin (S := FR W.heap.size tz wx) (by kernel_rfl) (FR.start Rz.out.j) (fun hHeld => ?_)
                                simp only [List.length_cons, List.length_nil, Nat.zero_add, Nat.reduceAdd, Array.replicate]
                                refine hreg_take (i := 0) rfl (by kernel_rfl) (by kernel_rfl) (by kernel_rfl) hreg_panic (by rfl) hHeld ?_
                                apply Exists.intro
                                refine ⟨fun w' hw' => ?_, ?_⟩
                                · have hf := hall w' hw'
                                  go_simp
                                  try go_bits
                                  exact yieldsV_mk rfl
                                simp only [Act.put, List.setIfInBounds_toArray, List.set_cons_zero, List.set_cons_succ]
                                refine hreg_take (i := 1) rfl (by kernel_rfl) (by kernel_rfl) (by kernel_rfl) hreg_panic (by rfl) hHeld ?_
                                apply Exists.intro
                                refine ⟨fun w' hw' => ?_, ?_⟩
                                · have hf := hall w' hw'
                                  go_simp
                                  try go_bits
                                  exact yieldsV_mk rfl
                                simp only [Act.put, List.setIfInBounds_toArray, List.set_cons_zero, List.set_cons_succ]
                                refine hreg_take (i := 2) rfl (by kernel_rfl) (by kernel_rfl) (by kernel_rfl) hreg_panic (by rfl) hHeld ?_
                                apply Exists.intro
                                refine ⟨fun w' hw' => ?_, ?_⟩
                                · have hf := hall w' hw'
                                  go_simp
                                  try go_bits
                                  exact yieldsV_mk rfl
                                simp only [Act.put, List.setIfInBounds_toArray, List.set_cons_zero, List.set_cons_succ]
                                refine hreg_take (i := 3) rfl (by kernel_rfl) (by kernel_rfl) (by kernel_rfl) hreg_panic (by rfl) hHeld ?_
                                apply Exists.intro
                                refine ⟨fun w' hw' => ?_, ?_⟩
                                · have hf := hall w' hw'
                                  go_simp
                                  try go_bits
                                  exact yieldsV_mk rfl
                                simp only [Act.put, List.setIfInBounds_toArray, List.set_cons_zero, List.set_cons_succ]
                                refine hreg_take (i := 4) rfl (by kernel_rfl) (by kernel_rfl) (by kernel_rfl) hreg_panic (by rfl) hHeld ?_
                                apply Exists.intro
                                refine ⟨fun w' hw' => ?_, ?_⟩
                                · have hf := hall w' hw'
                                  go_simp
                                  try go_bits
                                  exact yieldsV_mk rfl
                                simp only [Act.put, List.setIfInBounds_toArray, List.set_cons_zero, List.set_cons_succ]
                                refine wpAnyH_ready (rs := [5]) (by kernel_rfl) (by simp) ?_
                                refine hreg_event (o := _) rfl (by rfl) (fun K hK => ?_) ?_
                                · go_simp
                                  first
                                    | (have f1 := hHeld.canTx; rw [canPut_drew] at f1; go_simp)
                                    | (obtain ⟨r1, f2, f3, f6⟩ := hHeld.canRest; obtain ⟨r2, f4, f5, f7⟩ := hHeld.canEr; go_simp)
                                    | skip
                                  refine hK.out _ _ ?_ (fun hHeld' => ?_)
                                  · first
                                      | exact hHeld.putTx
                                      | exact hHeld.putRest _
                                      | exact hHeld.putEr _
                                      | exact hHeld.next hb
                                      | exact hHeld
                                      | exact hHeld.alloc _
                                      | exact hHeld.setCell (by simp <;> omega) _
                                      | exact (hHeld.alloc _).alloc _
                                  replace hHeld := hHeld'
                                  clear hHeld' hK K
                                  simp only [Act.put, List.setIfInBounds_toArray, List.set_cons_zero, List.set_cons_succ]
                                  refine wpAnyH_ready (rs := [6]) (by kernel_rfl) (by simp) ?_
                                  refine hreg_event (o := _) rfl (by rfl) (fun K hK => ?_) ?_
                                  · go_simp
                                    first
                                      | (have f1 := hHeld.canTx; rw [canPut_drew] at f1; go_simp)
                                      | (obtain ⟨r1, f2, f3, f6⟩ := hHeld.canRest; obtain ⟨r2, f4, f5, f7⟩ := hHeld.canEr; go_simp)
                                      | skip
                                    refine hK.out _ _ ?_ (fun hHeld' => ?_)
                                    · first
                                        | exact hHeld.putTx
                                        | exact hHeld.putRest _
                                        | exact hHeld.putEr _
                                        | exact hHeld.next hb
                                        | exact hHeld
                                        | exact hHeld.alloc _
                                        | exact hHeld.setCell (by simp <;> omega) _
                                        | exact (hHeld.alloc _).alloc _
                                    replace hHeld := hHeld'
                                    clear hHeld' hK K
                                    simp only [Act.put, List.setIfInBounds_toArray, List.set_cons_zero, List.set_cons_succ]
                                    refine wpAnyH_ready (rs := [7]) (by kernel_rfl) (by simp) ?_
                                    refine hreg_event (o := _) rfl (by rfl) (fun K hK => ?_) ?_
                                    · go_simp
                                      first
                                        | (have f1 := hHeld.canTx; rw [canPut_drew] at f1; go_simp)
                                        | (obtain ⟨r1, f2, f3, f6⟩ := hHeld.canRest; obtain ⟨r2, f4, f5, f7⟩ := hHeld.canEr; go_simp)
                                        | skip
                                      refine hK.out _ _ ?_ (fun hHeld' => ?_)
                                      · first
                                          | exact hHeld.putTx
                                          | exact hHeld.putRest _
                                          | exact hHeld.putEr _
                                          | exact hHeld.next hb
                                          | exact hHeld
                                          | exact hHeld.alloc _
                                          | exact hHeld.setCell (by simp <;> omega) _
                                          | exact (hHeld.alloc _).alloc _
                                      replace hHeld := hHeld'
                                      clear hHeld' hK K
                                      simp only [Act.put, List.setIfInBounds_toArray, List.set_cons_zero, List.set_cons_succ]
                                      refine wpAnyH_done (by kernel_rfl) ?_ _
                                      refine NoPanic.normal ?_
                                      have J := (FR.start Rz.out.j).last q3 0
                                      go_wp2
                                      refine leaves_cons (f := 92) (args := #[.pointer (some ⟨W.heap.size, 0, none⟩), .pointer (some ⟨W.heap.size + 1, 0, none⟩), .pointer (some ⟨W.heap.size + 1 + 1, 0, none⟩)]) (by simp) (by simp [go_sem]) ?_
                                      refine read_idle.mono ?_
                                      rintro e u' w'' ⟨rfl, rfl, hb4⟩
                                      show ∃ v, (results _ _).run _ _ = .ok v _ ∧ _
                                      refine ⟨_, read_results (B := W.heap.size) rfl rfl rfl ⟨keepBlock hb4 J.tx, keepBlock hb4 J.rest, keepBlock hb4 J.er⟩, ?_⟩
                                      rw [Rz.out.eq]
                                      exact ⟨tz, rfl, (Rz.out.txlF hHeld).below hb4, (Rz.out.below.trans hHeld.below).trans (hb4.mono (by have := hHeld.below.size; have := Rz.out.cells.2.2; omega))⟩
                                    exact AllReadyH.nil
                                  exact AllReadyH.nil
                                exact AllReadyH.nil
                            exact AllReadyH.nil
                          exact AllReadyH.nil
                        exact AllReadyH.nil

end Go.Proofs.Ytahkiabpjfcfdaa
