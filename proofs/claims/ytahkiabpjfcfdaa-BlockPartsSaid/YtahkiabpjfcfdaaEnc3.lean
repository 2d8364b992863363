/- Package tx: Encode. -/
import Derived.Test.YtahkiabpjfcfdaaEnc2
namespace Go.Proofs.Ytahkiabpjfcfdaa
open Go.RowKit
set_option linter.unusedVariables false
set_option linter.unusedSimpArgs false
set_option maxRecDepth 100000
attribute [local irreducible] Int.lt Int.le
attribute [local go_sem ↓] load_key store_key alloc_key build0_key eq_key load_point store_point alloc_point load_out store_out alloc_out load_tx store_tx alloc_tx
attribute [local go_sem] rowOf_drew rowOf_alloc_old rowOf_alloc_new canPut_drew canPut_alloc_old canPut_alloc_new setCells_alloc_new

/-- A transaction's content. -/
structure TxD where
  exp : Int
  ins : List PointV
  outs : List OutV
  anchor : Key
  nulls : List Key
  notes : List Key
  bal : Int
/-- The value t has the content d, in the world w. -/
structure TxL (w : World) (t : TxV) (d : TxD) : Prop where
  ins : SL pointC 33 w t.ins.a t.ins.len t.ins.cap d.ins
  outs : SL outC 33 w t.outs.a t.outs.len t.outs.cap d.outs
  nulls : SL keyC 32 w t.nulls.a t.nulls.len t.nulls.cap d.nulls
  notes : SL keyC 32 w t.notes.a t.notes.len t.notes.cap d.notes
  idx : ∀ p : PointV, p ∈ d.ins → 0 ≤ p.idx ∧ p.idx ≤ 4294967295
  val : ∀ p : OutV, p ∈ d.outs → -9223372036854775808 ≤ p.value ∧ p.value ≤ 9223372036854775807
  exp : t.exp = d.exp ∧ 0 ≤ d.exp ∧ d.exp ≤ 4294967295
  anchor : t.anchor = d.anchor
  bal : t.bal = d.bal ∧ -9223372036854775808 ≤ d.bal ∧ d.bal ≤ 9223372036854775807
theorem TxL.below {w w' : World} {t : TxV} {d : TxD} (h : TxL w t d) (hb : Below w.heap.size w w') : TxL w' t d := ⟨h.ins.below hb, h.outs.below hb, h.nulls.below hb, h.notes.below hb, h.idx, h.val, h.exp, h.anchor, h.bal⟩
theorem TxL.of {w : World} {t : TxV} {ins : List PointV} {outs : List OutV} {nulls notes : List Key} (h : TxHas w t ins outs nulls notes) : TxL w t ⟨t.exp, ins, outs, t.anchor, nulls, notes, t.bal⟩ :=
  ⟨h.ins.sl pointC_length, h.outs.sl outC_length, h.nulls.sl keyC_length, h.notes.sl keyC_length, h.idx, h.val, ⟨rfl, h.exp⟩, rfl, ⟨rfl, h.bal⟩⟩

@[irreducible] def encB (d : TxD) : List UInt8 :=
  le 4 d.exp.toNat ++ compactL d.ins.length ++ catF (fun _ p => ptB p) 0 d.ins ++ compactL d.outs.length ++ catF (fun _ p => outB p) 0 d.outs ++ compactL d.nulls.length ++ catF (fun i k => (if i = 0 then d.anchor.val else []) ++ k.val) 0 d.nulls ++ compactL d.notes.length ++ catF (fun _ k => k.val) 0 d.notes ++ le 8 (u64N d.bal)
def manyB (d : TxD) : Bool := decide (40 < d.ins.length) || decide (40 < d.outs.length) || decide (40 < d.nulls.length) || decide (40 < d.notes.length)
@[irreducible] def encV (d : TxD) : List UInt8 × Int := if manyB d then ([], 51) else if d.nulls.length = 0 ∧ ¬ (d.anchor = zeroKey) then ([], 1) else (encB d, 0)
def valE (r : List UInt8 × Int) : Value := .tuple #[.string (sB r.1), .int .i64 r.2]

@[irreducible] def max4 (a b c d : Int) : Int := if d > (if c > (if b > a then b else a) then c else (if b > a then b else a)) then d else (if c > (if b > a then b else a) then c else (if b > a then b else a))
@[go_sem] theorem run_max_int4 {P : Program} (ts : Array TypeId) (t : TypeId) (k k' k'' k3 : IntKind) (x y z u : Int) (w : World) : (Builtin.max_ ts t #[.int k x, .int k' y, .int k'' z, .int k3 u]).run P w = .ok (.int k (max4 x y z u)) w := by
  unfold max4
  simp [Builtin.max_, Builtin.max2]
@[go_sem] theorem store_func {P : Program} (a : Addr) (f : Fn) (x y : Array Value) (m : Mode) (w : World) : Sem.run P (store a (.func f x y) m) w = stored P w a (.func f x y) m := run_store P w a _ m rfl
theorem max4_many (d : TxD) : decide ((40 : Int) < max4 d.ins.length d.outs.length d.nulls.length d.notes.length) = manyB d := by
  unfold max4 manyB
  rw [Bool.eq_iff_iff]
  simp only [decide_eq_true_eq, Bool.or_eq_true]
  split <;> split <;> (try split) <;> omega

/-- What Encode's variables hold: the writer of keys, the transaction. -/
structure EI (b kb tb : Nat) (t : TxV) (w : World) : Prop where
  key : KB b kb w
  tx : w.heap[tb]? = some (.cells (txC t).toArray 41 (0, 0))
  ne : tb ≠ b
theorem EI.keep {b kb tb : Nat} {t : TxV} {w w' : World} (h : EI b kb tb t w) (hk : Kp b w w') : EI b kb tb t w' := ⟨h.key.keep hk, hk.heap h.tx h.ne (by decide), h.ne⟩
theorem compactL_le (n : Nat) : (compactL n).length ≤ 9 := by rw [compactL_length]; split <;> (try split) <;> (try split) <;> omega
theorem catF_le {α : Type} {F : Nat → α → List UInt8} (hF : ∀ i x, (F i x).length ≤ 64) {l : List α} (hl : l.length ≤ 40) (i : Nat) : (catF F i l).length ≤ 2560 := by
  have := catF_length hF l i
  have h2 : l.length * 64 ≤ 40 * 64 := Nat.mul_le_mul_right _ hl
  omega

theorem ent2 (args : Array Value) (w : World) : (callFunc 85 args).run Try.prog w = .ok (.enter 85 args) w := by simp [go_sem]
theorem ent3 (args : Array Value) (w : World) : (callFunc 87 args).run Try.prog w = .ok (.enter 87 args) w := by simp [go_sem]
theorem ent4 (args : Array Value) (w : World) : (callFunc 89 args).run Try.prog w = .ok (.enter 89 args) w := by simp [go_sem]
theorem ent1 (args : Array Value) (w : World) : (callFunc 82 args).run Try.prog w = .ok (.enter 82 args) w := by simp [go_sem]

set_option maxHeartbeats 4000000 in
theorem encode_any (t : TxV) (d : TxD) (W : World) (h : TxL W t d) : Calls Try.prog 49 #[.agg (txC t).toArray] W (Gives (valE (encV d)) W) := by
  have e1 := h.ins.1
  have e2 := h.outs.1
  have e3 := h.nulls.1
  have e4 := h.notes.1
  have hmx := max4_many d
  rw [← e1, ← e2, ← e3, ← e4] at hmx
  have hB0 : Below W.heap.size W (W.alloc (.cells (txC t).toArray 41)) := (Below.refl _ _).alloc (Nat.le_refl _) _
  cases hm : manyB d
  · rw [hm, decide_eq_false_iff_not] at hmx
    by_cases hz : d.nulls.length = 0 ∧ ¬ (d.anchor = zeroKey)
    · have hE : encV d = ([], 1) := by unfold encV; rw [hm, if_neg (by simp), if_pos hz]
      rw [hE]
      have hn0 : t.nulls.len = 0 := by rw [e3]; exact hz.1
      have hmx0 : ¬ (40 : Int) < max4 t.ins.len t.outs.len 0 t.notes.len := by have := hmx; rw [hn0] at this; exact this
      have ha : (t.anchor == zeroKey) = false := by rw [h.anchor]; simpa using hz.2
      have hA : rowOf (W.alloc (.cells (txC t).toArray 41)) W.heap.size 3 32 = some (keyC t.anchor) := (tx_all (heap_alloc_new W _)).2.2.2.2.1
      replace h := Box.mk h
      replace hz := Box.mk hz
      replace e1 := Box.mk e1
      replace e2 := Box.mk e2
      replace e3 := Box.mk e3
      replace e4 := Box.mk e4
      replace hE := Box.mk hE
      go_enter Try.func49, Try.ntmps49
      go_wp2
      go_ret2
      exact gives rfl hB0
    · have hE : encV d = (encB d, 0) := by unfold encV; rw [hm, if_neg (by simp), if_neg hz]
      rw [hE]
      obtain ⟨hm1, hm2, hm3, hm4⟩ : t.ins.len ≤ 40 ∧ t.outs.len ≤ 40 ∧ t.nulls.len ≤ 40 ∧ t.notes.len ≤ 40 := by
        have := hm
        unfold manyB at this
        simp only [Bool.or_eq_false_iff, decide_eq_false_iff_not] at this
        omega
      have hk : d.nulls.length = 0 → (t.anchor == zeroKey) = true := fun h0 => by rw [h.anchor]; simpa using Decidable.not_not.1 (fun hne => hz ⟨h0, hne⟩)
      have hA : rowOf (W.alloc (.cells (txC t).toArray 41)) W.heap.size 3 32 = some (keyC t.anchor) := (tx_all (heap_alloc_new W _)).2.2.2.2.1
      replace h := Box.mk h
      replace hz := Box.mk hz
      replace e1 := Box.mk e1
      replace e2 := Box.mk e2
      replace e4 := Box.mk e4
      replace hE := Box.mk hE
      have key : (t.nulls.len = 0 ∧ (t.anchor == zeroKey) = true ∧ ¬ (40 : Int) < max4 t.ins.len t.outs.len 0 t.notes.len) ∨ ¬ ((t.nulls.len : Int) = 0) := by
        by_cases h0 : d.nulls.length = 0
        · exact .inl ⟨by rw [e3]; exact h0, hk h0, by have := hmx; rw [show t.nulls.len = 0 from by rw [e3]; exact h0] at this; exact this⟩
        · exact .inr (by omega)
      replace e3 := Box.mk e3
      clear hk
      rcases key with ⟨k1, k2', k3'⟩ | k1
      case' inr => have k2' := trivial; have k3' := trivial
      all_goals
      (go_enter Try.func49, Try.ntmps49
       go_wp2_with fail
       clear k1 k2' k3'
       have hw2 : ((W.alloc (.cells (txC t).toArray 41)).alloc (.cells #[.pointer none, .slice none 0 0] 107)).heap.size = W.heap.size + 1 + 1 := by simp
       have h1 : ((W.alloc (.cells (txC t).toArray 41)).alloc (.cells #[.pointer none, .slice none 0 0] 107)).heap[W.heap.size]? = some (.cells (txC t).toArray 41 (0, 0)) := by
         rw [Below.heap_alloc _ _ _ (by simp)]; exact heap_alloc_new W _
       have h2 : Bld ((W.alloc (.cells (txC t).toArray 41)).alloc (.cells #[.pointer none, .slice none 0 0] 107)) (W.heap.size + 1) [] := Bld.new _ _ (by simp)
       have h4 : Below W.heap.size W ((W.alloc (.cells (txC t).toArray 41)).alloc (.cells #[.pointer none, .slice none 0 0] 107)) := hB0.alloc (by simp) _
       clear hA
       generalize (W.alloc (.cells (txC t).toArray 41)).alloc (.cells #[.pointer none, .slice none 0 0] 107) = w1 at *
       have hK : EI (W.heap.size + 1) (W.heap.size + 1 + 1) W.heap.size t (w1.alloc (.cells #[.func (.func 82) #[] #[.pointer (some ⟨W.heap.size + 1, 0, none⟩)]] 112)) :=
         ⟨⟨by rw [← hw2]; exact heap_alloc_new w1 _, by omega⟩, by rw [Below.heap_alloc _ _ _ (by omega)]; exact h1, by omega⟩
       have hB2 := h2.alloc (.cells #[.func (.func 82) #[] #[.pointer (some ⟨W.heap.size + 1, 0, none⟩)]] 112)
       have hW2 := h4.alloc (by omega) (.cells #[.func (.func 82) #[] #[.pointer (some ⟨W.heap.size + 1, 0, none⟩)]] 112)
       clear h1 h2 h4
       generalize w1.alloc (.cells #[.func (.func 82) #[] #[.pointer (some ⟨W.heap.size + 1, 0, none⟩)]] 112) = w2 at *
       rw [u64N_wrap]
       refine (put_any (u64N t.exp) 4 w2 (u64N_lt _)).mono ?_
       rintro e w3 ⟨rfl, hb3⟩
       rw [show putL (u64N t.exp) 4 = le 4 (u64N t.exp) from putL_nat _ 4 (by omega) (by omega)]
       have B3 := hB2.below hb3
       have I3 := hK.keep (Kp.of hb3 (Nat.le_of_lt hB2.lt))
       have W3 := hW2.trans (hb3.mono hW2.size)
       clear hB2 hK hW2
       go_wp2_with fail
       refine (ws_any (le 4 (u64N t.exp)) B3 (by rw [le_length]; simp)).mono ?_
       rintro e w4 ⟨rfl, B4, kp4⟩
       rw [List.nil_append] at B4
       have I4 := I3.keep kp4
       have W4 := W3.trans (kp4.below.mono (by omega))
       clear B3 I3 W3
       obtain ⟨t0, t1, t2, t3, t4, t5, t6, t7⟩ := tx_all I4.tx
       clear t1 t3 t4 t5 t6 t7
       have n1 : t.ins.len ≤ 40 := hm1
       have R := wr_pt 85 #[.pointer (some ⟨W.heap.size + 1 + 1, 0, none⟩), .pointer (some ⟨W.heap.size + 1, 0, none⟩)] (fun _ p => ptB p) (fun _ w => EI (W.heap.size + 1) (W.heap.size + 1 + 1) W.heap.size t w) (W.heap.size + 1) t.ins.a t.ins.len t.ins.cap d.ins W ent2 (fun _ _ _ h k => h.keep k)
         (fun i x w bs hx hB hI hl => (enc2_any x hB hI.key (h.out.idx x hx) (by omega)).mono fun e w' ⟨q1, q2, q3⟩ => ⟨q1, q2, hI.keep q3, q3.below⟩)
         (fun _ x => by rw [ptB_length]; omega) h.out.ins (by omega) hm1 w4 W4 _ B4 (by rw [le_length]; omega) I4
       replace R := Box.mk R
       replace B4 := Box.mk B4
       replace I4 := Box.mk I4
       go_wp2_with fail
       refine R.out.mono ?_
       rintro e w5 ⟨rfl, B5, I5, b5⟩
       clear t0 t2
       have W5 := W4.trans (b5.mono (by omega))
       obtain ⟨s5, hs5⟩ : ∃ s, s = le 4 (u64N t.exp) ++ compactL t.ins.len ++ catF (fun _ p => ptB p) 0 d.ins := ⟨_, rfl⟩
       have l5 : s5.length ≤ 3000 := by
         have c1 := compactL_le t.ins.len
         have c2 := catF_le (F := fun _ p => ptB p) (fun _ x => by rw [ptB_length]; omega) (l := d.ins) (by rw [← e1.out]; exact hm1) 0
         rw [hs5]; simp only [List.length_append, le_length]; omega
       rw [← hs5] at B5
       replace hs5 := Box.mk hs5
       clear R B4 I4 W4 b5
       obtain ⟨t0, t1, t2, t3, t4, t5, t6, t7⟩ := tx_all I5.tx
       clear t1 t2 t4 t5 t6 t7
       have R := wr_out 87 #[.pointer (some ⟨W.heap.size + 1, 0, none⟩), .pointer (some ⟨W.heap.size + 1 + 1, 0, none⟩)] (fun _ p => outB p) (fun _ w => EI (W.heap.size + 1) (W.heap.size + 1 + 1) W.heap.size t w) (W.heap.size + 1) t.outs.a t.outs.len t.outs.cap d.outs W ent3 (fun _ _ _ h k => h.keep k)
         (fun i x w bs hx hB hI hl => (enc3_any x hB hI.key (by omega)).mono fun e w' ⟨q1, q2, q3⟩ => ⟨q1, q2, hI.keep q3, q3.below⟩)
         (fun _ x => by rw [outB_length]; omega) h.out.outs (by omega) hm2 w5 W5 _ B5 (by omega) I5
       replace R := Box.mk R
       replace B5 := Box.mk B5
       replace I5 := Box.mk I5
       go_wp2_with fail
       refine R.out.mono ?_
       rintro e w6 ⟨rfl, B6, I6, b6⟩
       clear t0 t3
       have W6 := W5.trans (b6.mono (by omega))
       obtain ⟨s6, hs6⟩ : ∃ s, s = s5 ++ compactL t.outs.len ++ catF (fun _ p => outB p) 0 d.outs := ⟨_, rfl⟩
       have l6 : s6.length ≤ 6000 := by
         have c1 := compactL_le t.outs.len
         have c2 := catF_le (F := fun _ p => outB p) (fun _ x => by rw [outB_length]; omega) (l := d.outs) (by rw [← e2.out]; exact hm2) 0
         rw [hs6]; simp only [List.length_append]; omega
       rw [← hs6] at B6
       replace hs6 := Box.mk hs6
       clear R B5 I5 W5 b6
       have hsz6 : W.heap.size + 1 + 1 < w6.heap.size := I6.key.cell.2
       have N7 : NB (W.heap.size + 1) w6.heap.size (W.heap.size + 1 + 1) W.heap.size t 0 (w6.alloc (.cells #[.bool true] 4)) :=
         ⟨heap_alloc_new w6 _, I6.key.keep ((Kp.refl _ _).alloc (by omega) _), by rw [Below.heap_alloc _ _ _ (by omega)]; exact I6.tx, by omega⟩
       have B7 := B6.alloc (.cells #[.bool true] 4)
       have W7 := W6.alloc W6.size (.cells #[.bool true] 4)
       have hs7 : (w6.alloc (.cells #[.bool true] 4)).heap.size = w6.heap.size + 1 := by simp
       obtain ⟨t0, t1, t2, t3, t4, t5, t6, t7⟩ := tx_all N7.tx
       clear t1 t2 t3 t4 t6 t7
       have R := fun (fb : Nat) (hfb : fb = w6.heap.size) (w7 : World) (N7 : NB (W.heap.size + 1) fb (W.heap.size + 1 + 1) W.heap.size t 0 w7) (B7 : Bld w7 (W.heap.size + 1) s6) (W7 : Below W.heap.size W w7) => wr_key 89 #[.pointer (some ⟨fb, 0, none⟩), .pointer (some ⟨W.heap.size + 1 + 1, 0, none⟩), .pointer (some ⟨W.heap.size, 0, none⟩)] (fun i k => nullF t i k) (fun i w => NB (W.heap.size + 1) fb (W.heap.size + 1 + 1) W.heap.size t i w) (W.heap.size + 1) t.nulls.a t.nulls.len t.nulls.cap d.nulls W ent4 (fun _ _ _ h k => h.keep k)
         (fun i x w bs hx hB hI hl => enc4_any x hB hI hl)
         (fun i x => nullF_length t i x) h.out.nulls (by omega) hm3 w7 W7 _ B7 (by omega) N7
       replace R := Box.mk (R _ rfl _ N7 B7 W7)
       replace N7 := Box.mk N7
       replace B7 := Box.mk B7
       replace I6 := Box.mk I6
       replace B6 := Box.mk B6
       go_wp2_with fail
       generalize w6.alloc (.cells #[.bool true] 4) = w7 at *
       refine R.out.mono ?_
       rintro e w8 ⟨rfl, B8, N8, b8⟩
       clear t0 t5
       have W8 := W7.trans (b8.mono (by omega))
       have I8 : EI (W.heap.size + 1) (W.heap.size + 1 + 1) W.heap.size t w8 := ⟨N8.key, N8.tx, by omega⟩
       obtain ⟨s8, hs8⟩ : ∃ s, s = s6 ++ compactL t.nulls.len ++ catF (fun i k => nullF t i k) 0 d.nulls := ⟨_, rfl⟩
       have l8 : s8.length ≤ 9000 := by
         have c1 := compactL_le t.nulls.len
         have c2 := catF_le (F := fun i k => nullF t i k) (fun i x => nullF_length t i x) (l := d.nulls) (by rw [← e3.out]; exact hm3) 0
         rw [hs8]; simp only [List.length_append]; omega
       rw [← hs8] at B8
       replace hs8 := Box.mk hs8
       clear R B7 N7 N8 W7 b8 hs7
       obtain ⟨t0, t1, t2, t3, t4, t5, t6, t7⟩ := tx_all I8.tx
       obtain ⟨d1, d2⟩ := I8.key.cell
       clear t1 t2 t3 t4 t5 t7
       have R := wr_key 82 #[.pointer (some ⟨W.heap.size + 1, 0, none⟩)] (fun _ k => k.val) (fun _ w => EI (W.heap.size + 1) (W.heap.size + 1 + 1) W.heap.size t w) (W.heap.size + 1) t.notes.a t.notes.len t.notes.cap d.notes W ent1 (fun _ _ _ h k => h.keep k)
         (fun i x w bs hx hB hI hl => (enc1_any x hB (by omega)).mono fun e w' ⟨q1, q2, q3⟩ => ⟨q1, q2, hI.keep q3, q3.below⟩)
         (fun _ x => by rw [x.property]; omega) h.out.notes (by omega) hm4 w8 W8 _ B8 (by omega) I8
       replace R := Box.mk R
       replace B8 := Box.mk B8
       replace I8 := Box.mk I8
       go_wp2_with fail
       refine R.out.mono ?_
       rintro e w9 ⟨rfl, B9, I9, b9⟩
       clear t0 t6 d1 d2
       have W9 := W8.trans (b9.mono (by omega))
       obtain ⟨s9, hs9⟩ : ∃ s, s = s8 ++ compactL t.notes.len ++ catF (fun _ k => k.val) 0 d.notes := ⟨_, rfl⟩
       have l9 : s9.length ≤ 12000 := by
         have c1 := compactL_le t.notes.len
         have c2 := catF_le (F := fun _ (k : Key) => k.val) (fun _ x => by rw [x.property]; omega) (l := d.notes) (by rw [← e4.out]; exact hm4) 0
         rw [hs9]; simp only [List.length_append]; omega
       rw [← hs9] at B9
       replace hs9 := Box.mk hs9
       clear R B8 I8 W8 b9
       obtain ⟨t0, t1, t2, t3, t4, t5, t6, t7⟩ := tx_all I9.tx
       clear t1 t2 t3 t4 t5 t6
       replace I9 := Box.mk I9
       go_wp2_with fail
       rw [u64N_wrap]
       refine (put_any (u64N t.bal) 8 w9 (u64N_lt _)).mono ?_
       rintro e wa ⟨rfl, hba⟩
       rw [show putL (u64N t.bal) 8 = le 8 (u64N t.bal) from putL_nat _ 8 (by omega) (by omega)]
       have Ba := B9.below hba
       have Wa := W9.trans (hba.mono W9.size)
       replace B9 := Box.mk B9
       clear t0 t7
       go_wp2_with fail
       refine (ws_any (le 8 (u64N t.bal)) Ba (by rw [le_length]; omega)).mono ?_
       rintro e wb ⟨rfl, Bb, kpb⟩
       have Wb := Wa.trans (kpb.below.mono (by omega))
       replace Ba := Box.mk Ba
       go_wp2_with fail
       refine (str_any Bb).mono ?_
       rintro e wc ⟨rfl, Bc, kpc⟩
       have Wc := Wb.trans (kpc.below.mono (by omega))
       have hfin : s9 ++ le 8 (u64N t.bal) = encB d := by
         rw [hs9.out, hs8.out, hs6.out, hs5.out]
         unfold encB
         rw [e1.out, e2.out, e3.out, e4.out, h.out.exp.1, h.out.bal.1, show u64N d.exp = d.exp.toNat from by have := h.out.exp; unfold u64N; omega]
         unfold nullF
         rw [h.out.anchor]
       rw [hfin]
       replace hfin := Box.mk hfin
       replace Bb := Box.mk Bb
       replace Bc := Box.mk Bc
       go_wp2
       go_ret2
       exact gives rfl Wc)
  · rw [hm, decide_eq_true_eq] at hmx
    have hE : encV d = ([], 51) := by unfold encV; rw [hm, if_pos rfl]
    rw [hE]
    replace h := Box.mk h
    replace e1 := Box.mk e1
    replace e2 := Box.mk e2
    replace e3 := Box.mk e3
    replace e4 := Box.mk e4
    replace hE := Box.mk hE
    go_enter Try.func49, Try.ntmps49
    go_wp2
    go_ret2
    exact gives rfl hB0

end Go.Proofs.Ytahkiabpjfcfdaa
