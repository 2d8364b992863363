/- Package tree: bit, put. -/
import Derived.Test.YtabikhmaiennpaaTree1
import Derived.WalkMore
namespace Go.Proofs.Ytabikhmaiennpaa
open Go.RowKit
set_option linter.unusedVariables false
set_option linter.unusedSimpArgs false
set_option maxRecDepth 100000
attribute [local irreducible] Int.lt Int.le
attribute [local go_sem ↓] load_key store_key alloc_key build0_key eq_key load_a33 store_a33 alloc_a33 load_tree store_tree alloc_tree build0_tree
attribute [local go_sem] rowOf_drew canPut_drew canPut_alloc_old canPut_alloc_new

@[irreducible] def bitB (c i : Nat) : Bool := decide (c / 2 ^ i % 2 = 1)
theorem bit_and (c i : Nat) (hc : c < 4294967296) : bits BinOp.and .u32 ((c : Int) / 2 ^ i) 1 = ((c / 2 ^ i % 2 : Nat) : Int) := by
  have h1 : ((c : Int) / 2 ^ i) = ((c / 2 ^ i : Nat) : Int) := by simp
  rw [h1, show (1 : Int) = ((1 : Nat) : Int) from rfl, u32_and_nat _ _ (Nat.lt_of_le_of_lt (Nat.div_le_self _ _) hc) (by decide), Nat.and_one_is_mod]
theorem bit_bool (c i : Nat) (hc : c < 4294967296) : (bits BinOp.and .u32 ((c : Int) / 2 ^ i) 1 == 1) = bitB c i := by
  rw [bit_and c i hc]
  unfold bitB
  rcases Nat.mod_two_eq_zero_or_one (c / 2 ^ i) with h | h <;> rw [h] <;> rfl
theorem bit_any {w : World} {b : Nat} {t : TreeV} (h : TB w b t) (i : Nat) (hi : i < 32) (hc : t.count < 4294967296) : Calls Try.prog 20 #[.pointer (some ⟨b, 0, none⟩), .int .i64 i] w (Gives (.bool (bitB t.count i)) w) := by
  obtain ⟨c1, c2⟩ := h.count
  have hlt := h.lt
  generalize t.count = c at *
  replace h := Box.mk h
  go_enter Try.func20, Try.ntmps20
  go_wp2_with fail
  go_ret
  exact gives_bool (bit_bool c i hc) (Below.refl _ _)

/-- A note put behind all: the parts. -/
def upL (c : Nat) : Nat → Nat → Key → List Key → List Key
  | 0, _, _, l => l
  | f + 1, i, x, l => if bitB c i = true then upL c f (i + 1) (pairK (l.getD i zeroKey) x) (l.set i zeroKey) else l.set i x
theorem upL_length (c : Nat) : ∀ (f i : Nat) (x : Key) (l : List Key), (upL c f i x l).length = l.length
  | 0, _, _, _ => rfl
  | f + 1, i, x, l => by
    unfold upL
    split
    · rw [upL_length, List.length_set]
    · rw [List.length_set]
@[irreducible] def putT (t : TreeV) (x : Key) : TreeV := ⟨t.count + 1, upL t.count 32 0 x t.l, by rw [upL_length]; exact t.h⟩
theorem putT_eq (t : TreeV) (x : Key) {l : List Key} (hl : l.length = 32) (h : l = upL t.count 32 0 x t.l) : putT t x = ⟨t.count + 1, l, hl⟩ := by subst h; unfold putT; rfl
structure PK (b x : Nat) (w w' : World) : Prop where
  all : Below 0 w w'
  keep : ∀ c, c < w.heap.size → c ≠ b → c ≠ x → w'.heap[c]? = w.heap[c]?
theorem PK.size {b x : Nat} {w w' : World} (h : PK b x w w') : w.heap.size ≤ w'.heap.size := h.all.size
theorem PK.refl (b x : Nat) (w : World) : PK b x w w := ⟨Below.refl _ _, fun _ _ _ _ => rfl⟩
theorem PK.drew {b x : Nat} {w w' : World} (h : PK b x w w') : PK b x w w'.drew := ⟨h.all.drew, h.keep⟩
theorem PK.next {b x : Nat} {w w' w'' : World} (h : PK b x w w') (hb : Below w'.heap.size w' w'') : PK b x w w'' :=
  ⟨h.all.trans (hb.mono (Nat.zero_le _)), fun c h1 h2 h3 => (hb.block c (by have := h.size; omega)).trans (h.keep c h1 h2 h3)⟩
theorem setCells_ne {w : World} {b c : Nat} (h : c ≠ b) (o : Nat) (cs : List Value) : (w.setCells b o cs).heap[c]? = w.heap[c]? := by
  induction cs generalizing o w with
  | nil => rfl
  | cons v l ih => rw [World.setCells, ih]; exact Below.heap_setCell _ _ _ _ h
theorem PK.setCells {b x : Nat} {w w' : World} (h : PK b x w w') (c : Nat) (hc : c = b ∨ c = x) (o : Nat) (cs : List Value) : PK b x w (w'.setCells c o cs) :=
  ⟨below_setCells (Nat.zero_le _) _ _ _ _ h.all, fun d h1 h2 h3 => (setCells_ne (by rcases hc with rfl | rfl <;> assumption) _ _).trans (h.keep d h1 h2 h3)⟩
theorem PK.setCell {b x : Nat} {w w' : World} (h : PK b x w w') (o : Nat) (v : Value) : PK b x w (w'.setCell ⟨b, o, none⟩ v) :=
  ⟨h.all.setCell (p := ⟨b, o, none⟩) (Nat.zero_le _) v, fun d h1 h2 h3 => (Below.heap_setCell _ _ _ _ h2).trans (h.keep d h1 h2 h3)⟩
theorem PK.trans {b x : Nat} {w w' w'' : World} (h : PK b x w w') (h' : PK b x w' w'') : PK b x w w'' :=
  ⟨h.all.trans h'.all, fun c h1 h2 h3 => (h'.keep c (by have := h.size; omega) h2 h3).trans (h.keep c h1 h2 h3)⟩
/-- The variable x is the call's own. -/
theorem PK.oth {b x : Nat} {W w w' : World} (h : PK b x w w') (hb : Below W.heap.size W w) (hx : W.heap.size ≤ x) : Oth b W w' :=
  ⟨(hb.mono (Nat.zero_le _)).trans h.all, fun c h1 h2 => (h.keep c (by have := hb.size; omega) h2 (by omega)).trans (hb.block c h1)⟩
def KB (w : World) (b : Nat) (k : Key) : Prop := w.heap[b]? = some (.cells (keyC k).toArray 23 (0, 0))
theorem KB.lt {w : World} {b : Nat} {k : Key} (h : KB w b k) : b < w.heap.size := (Array.getElem?_eq_some_iff.1 h).1
theorem KB.below {w w' : World} {b : Nat} {k : Key} (h : KB w b k) (hb : Below w.heap.size w w') : KB w' b k := keepBlock hb h
theorem KB.row {w : World} {b : Nat} {k : Key} (h : KB w b k) : rowOf w b 0 32 = some (keyC k) := key_rowOf h
theorem KB.put {w : World} {b : Nat} {k : Key} (h : KB w b k) (k' : Key) : KB (w.setCells b 0 (keyC k')) b k' := by
  have hlt := h.lt
  have := setCells_append b (keyC k') w [] (keyC k) [] _ (0, 0) (by rw [keyC_length, keyC_length]) (by unfold KB at h; simpa using h)
  rw [List.length_nil] at this
  unfold KB
  rw [this]
  simp [hlt]
theorem KB.can {w : World} {b : Nat} {k : Key} (h : KB w b k) : canPut w b 0 32 = true := canPut_block h 0 32 (by simp [keyC_length])

set_option maxHeartbeats 4000000 in
theorem put_any {W : World} {b : Nat} {t : TreeV} (h : TB W b t) (x : Key) (hc : t.count + 1 < 4294967296) : Calls Try.prog 15 #[.pointer (some ⟨b, 0, none⟩), .agg (keyC x).toArray] W
    (fun e w' => e = .returned (.tuple #[]) ∧ TB w' b (putT t x) ∧ Oth b W w') := by
  have hbl := h.lt
  have hK0 : KB (W.alloc (.cells (keyC x).toArray 23)) W.heap.size x := heap_alloc_new W _
  have hB0 : Below W.heap.size W (W.alloc (.cells (keyC x).toArray 23)) := (Below.refl _ _).alloc (Nat.le_refl _) _
  have hT0 := h.below hB0
  have hs0 : (W.alloc (.cells (keyC x).toArray 23)).heap.size = W.heap.size + 1 := by simp
  replace h := Box.mk h
  replace hK0 := Box.mk hK0
  replace hB0 := Box.mk hB0
  replace hT0 := Box.mk hT0
  replace hs0 := Box.mk hs0
  obtain ⟨xb, hxb⟩ : ∃ n, W.heap.size = n := ⟨_, rfl⟩
  go_enter Try.func15, Try.ntmps15
  go_wp2_with fail
  generalize W.alloc (.cells (keyC x).toArray 23) = w0 at *
  have hK1 : Box (KB w0 xb x) := by rw [← hxb]; exact hK0
  have hne : b ≠ xb := by omega
  replace hxb := Box.mk hxb
  obtain ⟨C, hC⟩ : ∃ c, t.count = c := ⟨_, rfl⟩
  rw [hC] at hc
  replace hC := Box.mk hC
  go_step3
  go_wp2_with fail
  go_step3
  go_wp2_with fail
  go_loopw [5] (fun i wr => PK b xb w0 wr ∧ ∃ (j : Nat) (y : Key) (l : List Key) (hl : l.length = 32), j ≤ 32 ∧ i = .int .i64 j ∧ TB wr b ⟨C, l, hl⟩ ∧ KB wr xb y ∧ upL C 32 0 x t.l = upL C (32 - j) j y l) (fun i _ => 32 - (intOf i).toNat)
  case atStart => exact ⟨PK.refl _ _ _, 0, x, t.l, t.h, Nat.zero_le _, rfl, by have := hT0.out; rw [← hC.out]; exact this, hK1.out, rfl⟩
  case round =>
    obtain ⟨hP, j, y, l, hl, hj, rfl, hT, hK, hup⟩ := hrel
    have hbl2 := hT.lt
    have hxl := hK.lt
    by_cases hj2 : j < 32
    · have hjl : (j : Int) < 32 := by omega
      have hf : 32 - j = (31 - j) + 1 := by omega
      rw [hf] at hup
      have hbit := bit_any hT j hj2 (by show C < 4294967296; omega)
      obtain ⟨kj, hkj⟩ : ∃ k, l[j]? = some k := ⟨_, List.getElem?_eq_getElem (by omega)⟩
      have hgj : l.getD j zeroKey = kj := by rw [List.getD_eq_getElem?_getD, hkj]; rfl
      cases hbt : bitB C j with
      | false =>
        have hup2 : l.set j y = upL C 32 0 x t.l := by rw [hup, upL, if_neg (by rw [hbt]; decide)]
        replace hbit : Calls Try.prog 20 #[.pointer (some ⟨b, 0, none⟩), .int .i64 j] wr (Gives (.bool false) wr) := by rw [← hbt]; exact hbit
        replace hbit := Box.mk hbit
        replace hT := Box.mk hT
        replace hK := Box.mk hK
        replace hP := Box.mk hP
        replace hup := Box.mk hup
        replace hup2 := Box.mk hup2
        replace hkj := Box.mk hkj
        replace hgj := Box.mk hgj
        replace hbt := Box.mk hbt
        go_wp2_with fail
        refine hbit.out.mono ?_
        rintro e w5 ⟨rfl, hb5⟩
        have hT5 := Box.mk ((hT.out.below hb5).below (Below.refl _ _).drew)
        have hK5 := Box.mk ((hK.out.below hb5).below (Below.refl _ _).drew)
        have hP5 := Box.mk (hP.out.next hb5)
        have r5 := hK5.out.row
        have hall : ∀ w', PK b xb w5 w' → (xb < w'.heap.size ∧ b < w'.heap.size) := fun w' hw =>
          ⟨Nat.lt_of_lt_of_le hK5.out.lt hw.size, Nat.lt_of_lt_of_le hT5.out.lt hw.size⟩
        have hcp : canPut w5.drew b (1 + j * 32) 32 = true := hT5.out.can _ _ (by omega)
        have hbl5 : b < w5.drew.heap.size := hT5.out.lt
        have hxl5 : xb < w5.drew.heap.size := hK5.out.lt
        clear hbl2 hxl
        go_wp2_with fail
        refine hreg_begin (S := PK b xb w5) (by kernel_rfl) (PK.refl _ _ _).drew (fun hHeld => ?_)
        simp only [List.length_cons, List.length_nil, Nat.zero_add, Nat.reduceAdd, Array.replicate]
        refine hreg_take (i := 0) rfl (by kernel_rfl) (by kernel_rfl) (by kernel_rfl) hreg_panic (by rfl) hHeld ?_
        apply Exists.intro
        refine ⟨fun w' hw' => ?_, ?_⟩
        · have hf := hall w' hw'
          go_simp
          try go_bits
          exact yieldsV_mk rfl
        simp only [Act.put, List.setIfInBounds_toArray, List.set_cons_zero, List.set_cons_succ]
        refine hreg_take (i := 1) rfl (by kernel_rfl) (by kernel_rfl) (by kernel_rfl) hreg_panic (by rfl) hHeld ?_
        apply Exists.intro
        refine ⟨fun w' hw' => ?_, ?_⟩
        · have hf := hall w' hw'
          go_simp
          try go_bits
          exact yieldsV_mk rfl
        simp only [Act.put, List.setIfInBounds_toArray, List.set_cons_zero, List.set_cons_succ]
        refine hreg_take (i := 3) rfl (by kernel_rfl) (by kernel_rfl) (by kernel_rfl) hreg_panic (by rfl) hHeld ?_
        apply Exists.intro
        refine ⟨fun w' hw' => ?_, ?_⟩
        · have hf := hall w' hw'
          go_simp
          try go_bits
          exact yieldsV_mk rfl
        simp only [Act.put, List.setIfInBounds_toArray, List.set_cons_zero, List.set_cons_succ]
        refine hreg_take (i := 4) rfl (by kernel_rfl) (by kernel_rfl) (by kernel_rfl) hreg_panic (by rfl) hHeld ?_
        apply Exists.intro
        refine ⟨fun w' hw' => ?_, ?_⟩
        · have hf := hall w' hw'
          go_simp
          try go_bits
          exact yieldsV_mk rfl
        simp only [Act.put, List.setIfInBounds_toArray, List.set_cons_zero, List.set_cons_succ]
        refine wpAnyH_ready (rs := [2]) (by kernel_rfl) (by simp) ?_
        refine hreg_event (o := _) rfl (by rfl) (fun K hK => ?_) ?_
        · go_simp
          first
            | skip
          refine hK.out _ _ ?_ (fun hHeld' => ?_)
          · first
              | exact hHeld.setCells b (.inl rfl) _ _
              | exact hHeld.next hb
              | exact hHeld
              | exact hHeld.alloc _
              | exact hHeld.setCell (by simp <;> omega) _
              | exact (hHeld.alloc _).alloc _
          replace hHeld := hHeld'
          clear hHeld' hK K
          simp only [Act.put, List.setIfInBounds_toArray, List.set_cons_zero, List.set_cons_succ]
          refine hreg_take (i := 5) rfl (by kernel_rfl) (by kernel_rfl) (by kernel_rfl) hreg_panic (by rfl) hHeld ?_
          apply Exists.intro
          refine ⟨fun w' hw' => ?_, ?_⟩
          · have hf := hall w' hw'
            go_simp
            try go_bits
            exact yieldsV_mk rfl
          simp only [Act.put, List.setIfInBounds_toArray, List.set_cons_zero, List.set_cons_succ]
          refine wpAnyH_ready (rs := [6]) (by kernel_rfl) (by simp) ?_
          refine hreg_event (o := _) rfl (by rfl) (fun K hK => ?_) ?_
          · go_simp
            first
              | skip
            refine hK.out _ _ ?_ (fun hHeld' => ?_)
            · first
                | exact hHeld.setCells b (.inl rfl) _ _
                | exact hHeld.next hb
                | exact hHeld
                | exact hHeld.alloc _
                | exact hHeld.setCell (by simp <;> omega) _
                | exact (hHeld.alloc _).alloc _
            replace hHeld := hHeld'
            clear hHeld' hK K
            simp only [Act.put, List.setIfInBounds_toArray, List.set_cons_zero, List.set_cons_succ]
            refine wpAnyH_done (by kernel_rfl) ?_ _
            refine NoPanic.normal ?_
            have hTe : Box (TB (w5.drew.setCells b (1 + j * 32) (keyC y)) b ⟨C, l.set j y, by rw [List.length_set]; exact hl⟩) := Box.mk (hT5.out.put hj2 y)
            have hPe := Box.mk (hP5.out.trans hHeld)
            clear hxl5
            clear hall hcp hbl5 r5
            generalize w5.drew.setCells b (1 + j * 32) (keyC y) = w6 at *
            have hTf := hTe.out.setCount (C + 1)
            obtain ⟨c1, c2⟩ := hTe.out.count
            have hlte := hTe.out.lt
            have hPf := Box.mk (((hPe.out.setCell 0 (.int .u32 ((C + 1 : Nat) : Int)))).oth hB0.out (by rw [hxb.out]; exact Nat.le_refl _))
            have hcw : ((C : Int) + 1) % 4294967296 = (C : Int) + 1 := by omega
            replace hTf := Box.mk hTf
            replace hTe := Box.mk hTe
            go_wp2
            go_end0
            have e1 := putT_eq t x (l := l.set j y) (by rw [List.length_set]; exact hl) (by rw [hC.out]; exact hup2.out)
            rw [hC.out] at e1
            exact ⟨rfl, by rw [e1]; exact hTf.out, hPf.out⟩
          exact AllReadyH.nil
        exact AllReadyH.nil
      | true =>
        have hup2 : upL C 32 0 x t.l = upL C (32 - (j + 1)) (j + 1) (pairK kj y) (l.set j zeroKey) := by rw [hup, upL, if_pos hbt, hgj]; congr 1; omega
        replace hbit : Calls Try.prog 20 #[.pointer (some ⟨b, 0, none⟩), .int .i64 j] wr (Gives (.bool true) wr) := by rw [← hbt]; exact hbit
        have hkT := hT.part (i := j) hkj
        replace hbit := Box.mk hbit
        replace hT := Box.mk hT
        replace hK := Box.mk hK
        replace hP := Box.mk hP
        replace hup := Box.mk hup
        replace hup2 := Box.mk hup2
        replace hkj := Box.mk hkj
        replace hgj := Box.mk hgj
        replace hbt := Box.mk hbt
        go_wp2_with fail
        refine hbit.out.mono ?_
        rintro e w5 ⟨rfl, hb5⟩
        have hT5 := Box.mk ((hT.out.below hb5).below (Below.refl _ _).drew)
        have hK5 := Box.mk ((hK.out.below hb5).below (Below.refl _ _).drew)
        have hP5 := Box.mk (hP.out.next hb5).drew
        have r5 := hK5.out.row
        have r6 := hT5.out.part (i := j) hkj.out
        have hall : ∀ w', PK b xb w5 w' → (xb < w'.heap.size ∧ b < w'.heap.size) := fun w' hw =>
          ⟨Nat.lt_of_lt_of_le hK5.out.lt hw.size, Nat.lt_of_lt_of_le hT5.out.lt hw.size⟩
        have hbl5 : b < w5.drew.heap.size := hT5.out.lt
        have hxl5 : xb < w5.drew.heap.size := hK5.out.lt
        clear hbl2 hxl hkT
        go_wp2_with fail
        refine hreg_begin (S := PK b xb w5) (by kernel_rfl) (PK.refl _ _ _).drew (fun hHeld => ?_)
        simp only [List.length_cons, List.length_nil, Nat.zero_add, Nat.reduceAdd, Array.replicate]
        refine hreg_take (i := 0) rfl (by kernel_rfl) (by kernel_rfl) (by kernel_rfl) hreg_panic (by rfl) hHeld ?_
        apply Exists.intro
        refine ⟨fun w' hw' => ?_, ?_⟩
        · have hf := hall w' hw'
          go_simp
          try go_bits
          exact yieldsV_mk rfl
        simp only [Act.put, List.setIfInBounds_toArray, List.set_cons_zero, List.set_cons_succ]
        refine hreg_take (i := 1) rfl (by kernel_rfl) (by kernel_rfl) (by kernel_rfl) hreg_panic (by rfl) hHeld ?_
        apply Exists.intro
        refine ⟨fun w' hw' => ?_, ?_⟩
        · have hf := hall w' hw'
          go_simp
          try go_bits
          exact yieldsV_mk rfl
        simp only [Act.put, List.setIfInBounds_toArray, List.set_cons_zero, List.set_cons_succ]
        refine hreg_take (i := 2) rfl (by kernel_rfl) (by kernel_rfl) (by kernel_rfl) hreg_panic (by rfl) hHeld ?_
        apply Exists.intro
        refine ⟨fun w' hw' => ?_, ?_⟩
        · have hf := hall w' hw'
          go_simp
          try go_bits
          exact yieldsV_mk rfl
        simp only [Act.put, List.setIfInBounds_toArray, List.set_cons_zero, List.set_cons_succ]
        refine hreg_take (i := 3) rfl (by kernel_rfl) (by kernel_rfl) (by kernel_rfl) hreg_panic (by rfl) hHeld ?_
        apply Exists.intro
        refine ⟨fun w' hw' => ?_, ?_⟩
        · have hf := hall w' hw'
          go_simp
          try go_bits
          exact yieldsV_mk rfl
        simp only [Act.put, List.setIfInBounds_toArray, List.set_cons_zero, List.set_cons_succ]
        refine hreg_take (i := 4) rfl (by kernel_rfl) (by kernel_rfl) (by kernel_rfl) hreg_panic (by rfl) hHeld ?_
        apply Exists.intro
        refine ⟨fun w' hw' => ?_, ?_⟩
        · have hf := hall w' hw'
          go_simp
          try go_bits
          exact yieldsV_mk rfl
        simp only [Act.put, List.setIfInBounds_toArray, List.set_cons_zero, List.set_cons_succ]
        refine hreg_take (i := 5) rfl (by kernel_rfl) (by kernel_rfl) (by kernel_rfl) hreg_panic (by rfl) hHeld ?_
        apply Exists.intro
        refine ⟨fun w' hw' => ?_, ?_⟩
        · have hf := hall w' hw'
          go_simp
          try go_bits
          exact yieldsV_mk rfl
        simp only [Act.put, List.setIfInBounds_toArray, List.set_cons_zero, List.set_cons_succ]
        refine hreg_take (i := 6) rfl (by kernel_rfl) (by kernel_rfl) (by kernel_rfl) hreg_panic (by rfl) hHeld ?_
        apply Exists.intro
        refine ⟨fun w' hw' => ?_, ?_⟩
        · have hf := hall w' hw'
          go_simp
          try go_bits
          exact yieldsV_mk rfl
        simp only [Act.put, List.setIfInBounds_toArray, List.set_cons_zero, List.set_cons_succ]
        refine hreg_take (i := 10) rfl (by kernel_rfl) (by kernel_rfl) (by kernel_rfl) hreg_panic (by rfl) hHeld ?_
        apply Exists.intro
        refine ⟨fun w' hw' => ?_, ?_⟩
        · have hf := hall w' hw'
          go_simp
          try go_bits
          exact yieldsV_mk rfl
        simp only [Act.put, List.setIfInBounds_toArray, List.set_cons_zero, List.set_cons_succ]
        refine hreg_take (i := 12) rfl (by kernel_rfl) (by kernel_rfl) (by kernel_rfl) hreg_panic (by rfl) hHeld ?_
        apply Exists.intro
        refine ⟨fun w' hw' => ?_, ?_⟩
        · have hf := hall w' hw'
          go_simp
          try go_bits
          exact yieldsV_mk rfl
        simp only [Act.put, List.setIfInBounds_toArray, List.set_cons_zero, List.set_cons_succ]
        refine hreg_take (i := 13) rfl (by kernel_rfl) (by kernel_rfl) (by kernel_rfl) hreg_panic (by rfl) hHeld ?_
        apply Exists.intro
        refine ⟨fun w' hw' => ?_, ?_⟩
        · have hf := hall w' hw'
          go_simp
          try go_bits
          exact yieldsV_mk rfl
        simp only [Act.put, List.setIfInBounds_toArray, List.set_cons_zero, List.set_cons_succ]
        refine wpAnyH_ready (rs := [7, 8]) (by kernel_rfl) (by simp) ?_
        refine hreg_event (o := _) rfl (by rfl) (fun K hK => ?_) ?_
        · go_simp
          first
            | (go_at_call 18; refine (pair_any kj y _).mono ?_; rintro e wn ⟨rfl, hbn⟩; have hTn := hT5.out.below hbn; have hKn := hK5.out.below hbn; have p1 := hKn.can; have p2 : canPut (wn.setCells xb 0 (keyC (pairK kj y))) b (1 + j * 32) 32 = true := TB.can ((setCells_ne hne _ _).trans hTn) _ _ (by omega); have q1 := hKn.lt; have q2 : b < (wn.setCells xb 0 (keyC (pairK kj y))).heap.size := TB.lt ((setCells_ne hne _ _).trans hTn); have q3 := hTn.lt; replace hTn := Box.mk hTn; replace hKn := Box.mk hKn)
            | skip
          refine hK.out _ _ ?_ (fun hHeld' => ?_)
          · first
              | exact hHeld.next hbn
              | exact hHeld.setCells xb (.inr rfl) _ _
              | exact hHeld.setCells b (.inl rfl) _ _
              | exact hHeld.next hb
              | exact hHeld
              | exact hHeld.alloc _
              | exact hHeld.setCell (by simp <;> omega) _
              | exact (hHeld.alloc _).alloc _
          replace hHeld := hHeld'
          clear hHeld' hK K
          simp only [Act.put, List.setIfInBounds_toArray, List.set_cons_zero, List.set_cons_succ]
          refine wpAnyH_ready (rs := [8]) (by kernel_rfl) (by simp) ?_
          refine hreg_event (o := _) rfl (by rfl) (fun K hK => ?_) ?_
          · go_simp
            first
              | (go_at_call 18; refine (pair_any kj y _).mono ?_; rintro e wn ⟨rfl, hbn⟩; have hTn := hT5.out.below hbn; have hKn := hK5.out.below hbn; have p1 := hKn.can; have p2 : canPut (wn.setCells xb 0 (keyC (pairK kj y))) b (1 + j * 32) 32 = true := TB.can ((setCells_ne hne _ _).trans hTn) _ _ (by omega); have q1 := hKn.lt; have q2 : b < (wn.setCells xb 0 (keyC (pairK kj y))).heap.size := TB.lt ((setCells_ne hne _ _).trans hTn); have q3 := hTn.lt; replace hTn := Box.mk hTn; replace hKn := Box.mk hKn)
              | skip
            refine hK.out _ _ ?_ (fun hHeld' => ?_)
            · first
                | exact hHeld.next hbn
                | exact hHeld.setCells xb (.inr rfl) _ _
                | exact hHeld.setCells b (.inl rfl) _ _
                | exact hHeld.next hb
                | exact hHeld
                | exact hHeld.alloc _
                | exact hHeld.setCell (by simp <;> omega) _
                | exact (hHeld.alloc _).alloc _
            replace hHeld := hHeld'
            clear hHeld' hK K
            simp only [Act.put, List.setIfInBounds_toArray, List.set_cons_zero, List.set_cons_succ]
            refine wpAnyH_ready (rs := [9]) (by kernel_rfl) (by simp) ?_
            refine hreg_event (o := _) rfl (by rfl) (fun K hK => ?_) ?_
            · go_simp
              first
                | (go_at_call 18; refine (pair_any kj y _).mono ?_; rintro e wn ⟨rfl, hbn⟩; have hTn := hT5.out.below hbn; have hKn := hK5.out.below hbn; have p1 := hKn.can; have p2 : canPut (wn.setCells xb 0 (keyC (pairK kj y))) b (1 + j * 32) 32 = true := TB.can ((setCells_ne hne _ _).trans hTn) _ _ (by omega); have q1 := hKn.lt; have q2 : b < (wn.setCells xb 0 (keyC (pairK kj y))).heap.size := TB.lt ((setCells_ne hne _ _).trans hTn); have q3 := hTn.lt; replace hTn := Box.mk hTn; replace hKn := Box.mk hKn)
                | skip
              refine hK.out _ _ ?_ (fun hHeld' => ?_)
              · first
                  | exact hHeld.next hbn
                  | exact hHeld.setCells xb (.inr rfl) _ _
                  | exact hHeld.setCells b (.inl rfl) _ _
                  | exact hHeld.next hb
                  | exact hHeld
                  | exact hHeld.alloc _
                  | exact hHeld.setCell (by simp <;> omega) _
                  | exact (hHeld.alloc _).alloc _
              replace hHeld := hHeld'
              clear hHeld' hK K
              simp only [Act.put, List.setIfInBounds_toArray, List.set_cons_zero, List.set_cons_succ]
              refine wpAnyH_ready (rs := [11]) (by kernel_rfl) (by simp) ?_
              refine hreg_event (o := _) rfl (by rfl) (fun K hK => ?_) ?_
              · go_simp
                first
                  | (go_at_call 18; refine (pair_any kj y _).mono ?_; rintro e wn ⟨rfl, hbn⟩; have hTn := hT5.out.below hbn; have hKn := hK5.out.below hbn; have p1 := hKn.can; have p2 : canPut (wn.setCells xb 0 (keyC (pairK kj y))) b (1 + j * 32) 32 = true := TB.can ((setCells_ne hne _ _).trans hTn) _ _ (by omega); have q1 := hKn.lt; have q2 : b < (wn.setCells xb 0 (keyC (pairK kj y))).heap.size := TB.lt ((setCells_ne hne _ _).trans hTn); have q3 := hTn.lt; replace hTn := Box.mk hTn; replace hKn := Box.mk hKn)
                  | skip
                refine hK.out _ _ ?_ (fun hHeld' => ?_)
                · first
                    | exact hHeld.next hbn
                    | exact hHeld.setCells xb (.inr rfl) _ _
                    | exact hHeld.setCells b (.inl rfl) _ _
                    | exact hHeld.next hb
                    | exact hHeld
                    | exact hHeld.alloc _
                    | exact hHeld.setCell (by simp <;> omega) _
                    | exact (hHeld.alloc _).alloc _
                replace hHeld := hHeld'
                clear hHeld' hK K
                simp only [Act.put, List.setIfInBounds_toArray, List.set_cons_zero, List.set_cons_succ]
                refine hreg_take (i := 14) rfl (by kernel_rfl) (by kernel_rfl) (by kernel_rfl) hreg_panic (by rfl) hHeld ?_
                apply Exists.intro
                refine ⟨fun w' hw' => ?_, ?_⟩
                · have hf := hall w' hw'
                  go_simp
                  try go_bits
                  exact yieldsV_mk rfl
                simp only [Act.put, List.setIfInBounds_toArray, List.set_cons_zero, List.set_cons_succ]
                refine wpAnyH_ready (rs := [15]) (by kernel_rfl) (by simp) ?_
                refine hreg_event (o := _) rfl (by rfl) (fun K hK => ?_) ?_
                · go_simp
                  first
                    | (go_at_call 18; refine (pair_any kj y _).mono ?_; rintro e wn ⟨rfl, hbn⟩; have hTn := hT5.out.below hbn; have hKn := hK5.out.below hbn; have p1 := hKn.can; have p2 : canPut (wn.setCells xb 0 (keyC (pairK kj y))) b (1 + j * 32) 32 = true := TB.can ((setCells_ne hne _ _).trans hTn) _ _ (by omega); have q1 := hKn.lt; have q2 : b < (wn.setCells xb 0 (keyC (pairK kj y))).heap.size := TB.lt ((setCells_ne hne _ _).trans hTn); have q3 := hTn.lt; replace hTn := Box.mk hTn; replace hKn := Box.mk hKn)
                    | skip
                  refine hK.out _ _ ?_ (fun hHeld' => ?_)
                  · first
                      | exact hHeld.next hbn
                      | exact hHeld.setCells xb (.inr rfl) _ _
                      | exact hHeld.setCells b (.inl rfl) _ _
                      | exact hHeld.next hb
                      | exact hHeld
                      | exact hHeld.alloc _
                      | exact hHeld.setCell (by simp <;> omega) _
                      | exact (hHeld.alloc _).alloc _
                  replace hHeld := hHeld'
                  clear hHeld' hK K
                  simp only [Act.put, List.setIfInBounds_toArray, List.set_cons_zero, List.set_cons_succ]
                  refine wpAnyH_done (by kernel_rfl) ?_ _
                  refine NoPanic.normal ?_
                  have hT6 := Box.mk (TB.put ((setCells_ne (o := 0) (cs := keyC (pairK kj y)) hne).trans hTn.out : TB (wn.setCells xb 0 (keyC (pairK kj y))) b ⟨C, l, hl⟩) hj2 zeroKey)
                  have hK6 : Box (KB ((wn.setCells xb 0 (keyC (pairK kj y))).setCells b (1 + j * 32) (keyC zeroKey)) xb (pairK kj y)) := Box.mk ((setCells_ne (fun e => hne e.symm) _ _).trans (hKn.out.put (pairK kj y)))
                  have hP6 := Box.mk (hP.out.next hb5 |>.trans hHeld)
                  clear hall r5 r6 p1 p2 q1 q2 q3 hbl5 hxl5
                  generalize (wn.setCells xb 0 (keyC (pairK kj y))).setCells b (1 + j * 32) (keyC zeroKey) = w6 at *
                  go_wp2
                  go_roundw
                  case rel => exact ⟨hP6.out, j + 1, pairK kj y, l.set j zeroKey, by rw [List.length_set]; exact hl, by omega, by go_num, hT6.out, hK6.out, hup2.out⟩
                  case measure => simp [intOf]; omega
                exact AllReadyH.nil
              exact AllReadyH.nil
            exact AllReadyH.nil
          exact AllReadyH.nil
        refine hreg_event (o := _) rfl (by rfl) (fun K hK => ?_) ?_
        · go_simp
          first
            | (go_at_call 18; refine (pair_any kj y _).mono ?_; rintro e wn ⟨rfl, hbn⟩; have hTn := hT5.out.below hbn; have hKn := hK5.out.below hbn; have p1 := hKn.can; have p2 : canPut (wn.setCells xb 0 (keyC (pairK kj y))) b (1 + j * 32) 32 = true := TB.can ((setCells_ne hne _ _).trans hTn) _ _ (by omega); have q1 := hKn.lt; have q2 : b < (wn.setCells xb 0 (keyC (pairK kj y))).heap.size := TB.lt ((setCells_ne hne _ _).trans hTn); have q3 := hTn.lt; replace hTn := Box.mk hTn; replace hKn := Box.mk hKn)
            | skip
          refine hK.out _ _ ?_ (fun hHeld' => ?_)
          · first
              | exact hHeld.next hbn
              | exact hHeld.setCells xb (.inr rfl) _ _
              | exact hHeld.setCells b (.inl rfl) _ _
              | exact hHeld.next hb
              | exact hHeld
              | exact hHeld.alloc _
              | exact hHeld.setCell (by simp <;> omega) _
              | exact (hHeld.alloc _).alloc _
          replace hHeld := hHeld'
          clear hHeld' hK K
          simp only [Act.put, List.setIfInBounds_toArray, List.set_cons_zero, List.set_cons_succ]
          refine wpAnyH_ready (rs := [7]) (by kernel_rfl) (by simp) ?_
          refine hreg_event (o := _) rfl (by rfl) (fun K hK => ?_) ?_
          · go_simp
            first
              | (go_at_call 18; refine (pair_any kj y _).mono ?_; rintro e wn ⟨rfl, hbn⟩; have hTn := hT5.out.below hbn; have hKn := hK5.out.below hbn; have p1 := hKn.can; have p2 : canPut (wn.setCells xb 0 (keyC (pairK kj y))) b (1 + j * 32) 32 = true := TB.can ((setCells_ne hne _ _).trans hTn) _ _ (by omega); have q1 := hKn.lt; have q2 : b < (wn.setCells xb 0 (keyC (pairK kj y))).heap.size := TB.lt ((setCells_ne hne _ _).trans hTn); have q3 := hTn.lt; replace hTn := Box.mk hTn; replace hKn := Box.mk hKn)
              | skip
            refine hK.out _ _ ?_ (fun hHeld' => ?_)
            · first
                | exact hHeld.next hbn
                | exact hHeld.setCells xb (.inr rfl) _ _
                | exact hHeld.setCells b (.inl rfl) _ _
                | exact hHeld.next hb
                | exact hHeld
                | exact hHeld.alloc _
                | exact hHeld.setCell (by simp <;> omega) _
                | exact (hHeld.alloc _).alloc _
            replace hHeld := hHeld'
            clear hHeld' hK K
            simp only [Act.put, List.setIfInBounds_toArray, List.set_cons_zero, List.set_cons_succ]
            refine wpAnyH_ready (rs := [9]) (by kernel_rfl) (by simp) ?_
            refine hreg_event (o := _) rfl (by rfl) (fun K hK => ?_) ?_
            · go_simp
              first
                | (go_at_call 18; refine (pair_any kj y _).mono ?_; rintro e wn ⟨rfl, hbn⟩; have hTn := hT5.out.below hbn; have hKn := hK5.out.below hbn; have p1 := hKn.can; have p2 : canPut (wn.setCells xb 0 (keyC (pairK kj y))) b (1 + j * 32) 32 = true := TB.can ((setCells_ne hne _ _).trans hTn) _ _ (by omega); have q1 := hKn.lt; have q2 : b < (wn.setCells xb 0 (keyC (pairK kj y))).heap.size := TB.lt ((setCells_ne hne _ _).trans hTn); have q3 := hTn.lt; replace hTn := Box.mk hTn; replace hKn := Box.mk hKn)
                | skip
              refine hK.out _ _ ?_ (fun hHeld' => ?_)
              · first
                  | exact hHeld.next hbn
                  | exact hHeld.setCells xb (.inr rfl) _ _
                  | exact hHeld.setCells b (.inl rfl) _ _
                  | exact hHeld.next hb
                  | exact hHeld
                  | exact hHeld.alloc _
                  | exact hHeld.setCell (by simp <;> omega) _
                  | exact (hHeld.alloc _).alloc _
              replace hHeld := hHeld'
              clear hHeld' hK K
              simp only [Act.put, List.setIfInBounds_toArray, List.set_cons_zero, List.set_cons_succ]
              refine wpAnyH_ready (rs := [11]) (by kernel_rfl) (by simp) ?_
              refine hreg_event (o := _) rfl (by rfl) (fun K hK => ?_) ?_
              · go_simp
                first
                  | (go_at_call 18; refine (pair_any kj y _).mono ?_; rintro e wn ⟨rfl, hbn⟩; have hTn := hT5.out.below hbn; have hKn := hK5.out.below hbn; have p1 := hKn.can; have p2 : canPut (wn.setCells xb 0 (keyC (pairK kj y))) b (1 + j * 32) 32 = true := TB.can ((setCells_ne hne _ _).trans hTn) _ _ (by omega); have q1 := hKn.lt; have q2 : b < (wn.setCells xb 0 (keyC (pairK kj y))).heap.size := TB.lt ((setCells_ne hne _ _).trans hTn); have q3 := hTn.lt; replace hTn := Box.mk hTn; replace hKn := Box.mk hKn)
                  | skip
                refine hK.out _ _ ?_ (fun hHeld' => ?_)
                · first
                    | exact hHeld.next hbn
                    | exact hHeld.setCells xb (.inr rfl) _ _
                    | exact hHeld.setCells b (.inl rfl) _ _
                    | exact hHeld.next hb
                    | exact hHeld
                    | exact hHeld.alloc _
                    | exact hHeld.setCell (by simp <;> omega) _
                    | exact (hHeld.alloc _).alloc _
                replace hHeld := hHeld'
                clear hHeld' hK K
                simp only [Act.put, List.setIfInBounds_toArray, List.set_cons_zero, List.set_cons_succ]
                refine hreg_take (i := 14) rfl (by kernel_rfl) (by kernel_rfl) (by kernel_rfl) hreg_panic (by rfl) hHeld ?_
                apply Exists.intro
                refine ⟨fun w' hw' => ?_, ?_⟩
                · have hf := hall w' hw'
                  go_simp
                  try go_bits
                  exact yieldsV_mk rfl
                simp only [Act.put, List.setIfInBounds_toArray, List.set_cons_zero, List.set_cons_succ]
                refine wpAnyH_ready (rs := [15]) (by kernel_rfl) (by simp) ?_
                refine hreg_event (o := _) rfl (by rfl) (fun K hK => ?_) ?_
                · go_simp
                  first
                    | (go_at_call 18; refine (pair_any kj y _).mono ?_; rintro e wn ⟨rfl, hbn⟩; have hTn := hT5.out.below hbn; have hKn := hK5.out.below hbn; have p1 := hKn.can; have p2 : canPut (wn.setCells xb 0 (keyC (pairK kj y))) b (1 + j * 32) 32 = true := TB.can ((setCells_ne hne _ _).trans hTn) _ _ (by omega); have q1 := hKn.lt; have q2 : b < (wn.setCells xb 0 (keyC (pairK kj y))).heap.size := TB.lt ((setCells_ne hne _ _).trans hTn); have q3 := hTn.lt; replace hTn := Box.mk hTn; replace hKn := Box.mk hKn)
                    | skip
                  refine hK.out _ _ ?_ (fun hHeld' => ?_)
                  · first
                      | exact hHeld.next hbn
                      | exact hHeld.setCells xb (.inr rfl) _ _
                      | exact hHeld.setCells b (.inl rfl) _ _
                      | exact hHeld.next hb
                      | exact hHeld
                      | exact hHeld.alloc _
                      | exact hHeld.setCell (by simp <;> omega) _
                      | exact (hHeld.alloc _).alloc _
                  replace hHeld := hHeld'
                  clear hHeld' hK K
                  simp only [Act.put, List.setIfInBounds_toArray, List.set_cons_zero, List.set_cons_succ]
                  refine wpAnyH_done (by kernel_rfl) ?_ _
                  refine NoPanic.normal ?_
                  have hT6 := Box.mk (TB.put ((setCells_ne (o := 0) (cs := keyC (pairK kj y)) hne).trans hTn.out : TB (wn.setCells xb 0 (keyC (pairK kj y))) b ⟨C, l, hl⟩) hj2 zeroKey)
                  have hK6 : Box (KB ((wn.setCells xb 0 (keyC (pairK kj y))).setCells b (1 + j * 32) (keyC zeroKey)) xb (pairK kj y)) := Box.mk ((setCells_ne (fun e => hne e.symm) _ _).trans (hKn.out.put (pairK kj y)))
                  have hP6 := Box.mk (hP.out.next hb5 |>.trans hHeld)
                  clear hall r5 r6 p1 p2 q1 q2 q3 hbl5 hxl5
                  generalize (wn.setCells xb 0 (keyC (pairK kj y))).setCells b (1 + j * 32) (keyC zeroKey) = w6 at *
                  go_wp2
                  go_roundw
                  case rel => exact ⟨hP6.out, j + 1, pairK kj y, l.set j zeroKey, by rw [List.length_set]; exact hl, by omega, by go_num, hT6.out, hK6.out, hup2.out⟩
                  case measure => simp [intOf]; omega
                exact AllReadyH.nil
              exact AllReadyH.nil
            exact AllReadyH.nil
          exact AllReadyH.nil
        exact AllReadyH.nil
    · obtain rfl : j = 32 := by omega
      have hup2 : l = upL C 32 0 x t.l := by rw [hup]; rfl
      have hTe := Box.mk hT
      have hPe := Box.mk hP
      replace hK := Box.mk hK
      replace hup := Box.mk hup
      replace hup2 := Box.mk hup2
      clear hbl2 hxl hT hP
      have hTf := hTe.out.setCount (C + 1)
      obtain ⟨c1, c2⟩ := hTe.out.count
      have hlte := hTe.out.lt
      have hPf := Box.mk (((hPe.out.setCell 0 (.int .u32 ((C + 1 : Nat) : Int)))).oth hB0.out (by rw [hxb.out]; exact Nat.le_refl _))
      have hcw : ((C : Int) + 1) % 4294967296 = (C : Int) + 1 := by omega
      replace hTf := Box.mk hTf
      replace hTe := Box.mk hTe
      go_wp2
      go_end0
      have e1 := putT_eq t x (l := l) hl (by rw [hC.out]; exact hup2.out)
      rw [hC.out] at e1
      exact ⟨rfl, by rw [e1]; exact hTf.out, hPf.out⟩
end Go.Proofs.Ytabikhmaiennpaa
