/- Layer 5: the document's Read; Decode, by the program and by the document. (printed by mkrefrd2.py) -/
import Derived.Test.YtahkiabpjfcfdaaRefPart
import Derived.Test.YtahkiabpjfcfdaaRd6
namespace Go.Proofs.Ytahkiabpjfcfdaa
open Go.RowKit
set_option linter.unusedVariables false
set_option linter.unusedSimpArgs false
set_option maxRecDepth 100000

theorem thenR_assoc {α β γ : Type} (o : Got α) (f : α → List UInt8 → Got β) (g : β → List UInt8 → Got γ) : thenR (thenR o f) g = thenR o fun x r => thenR (f x r) g := by cases o <;> rfl
theorem thenR_err {α β : Type} {o : Got α} {f : α → List UInt8 → Got β} {x : Int} (h : thenR o f = .error x) : o = .error x ∨ ∃ y r, o = .ok (y, r) ∧ f y r = .error x := by
  cases o with
  | error e => injection h with h; subst h; exact .inl rfl
  | ok q => obtain ⟨y, r⟩ := q; exact .inr ⟨y, r, rfl, h⟩
theorem numR_errne {k : Nat} {s : List UInt8} {x : Int} (h : numR k s = .error x) : ¬ x = 0 := by
  by_cases hl : s.length < k
  · rw [numR_short hl] at h; injection h with h; omega
  · rw [numR_well hl] at h; cases h
theorem keyR_errne {s : List UInt8} {x : Int} (h : keyR s = .error x) : ¬ x = 0 := by have := (keyV_err h).2; omega
theorem ptR_errne {s : List UInt8} {x : Int} (h : ptR s = .error x) : ¬ x = 0 := by
  unfold ptR at h
  rcases thenR_err h with h | ⟨y, r, _, h⟩
  · exact keyR_errne h
  · rcases thenR_err h with h | ⟨y, r, _, h⟩
    · exact numR_errne h
    · cases h
theorem outR_errne {s : List UInt8} {x : Int} (h : outR s = .error x) : ¬ x = 0 := by
  unfold outR at h
  rcases thenR_err h with h | ⟨y, r, _, h⟩
  · exact numR_errne h
  · rcases thenR_err h with h | ⟨y, r, _, h⟩
    · exact keyR_errne h
    · cases h
theorem listR_errne {α : Type} {p : List UInt8 → Got α} (hp : ∀ s x, p s = .error x → ¬ x = 0) : ∀ (n : Nat) (s : List UInt8) (x : Int), listR p n s = .error x → ¬ x = 0
  | 0, s, x, h => by cases h
  | n + 1, s, x, h => by
    rcases thenR_err h with h | ⟨y, r, _, h⟩
    · exact hp _ _ h
    · rcases thenR_err h with h | ⟨y, r, _, h⟩
      · exact listR_errne hp n _ _ h
      · cases h
theorem anchorR_errne {n : Nat} {s : List UInt8} {x : Int} (h : anchorR n s = .error x) : ¬ x = 0 := by
  unfold anchorR at h
  split at h
  · exact keyR_errne h
  · cases h
/-- The stages by number. -/
def stg : Nat → TxD → List UInt8 → Got TxD
  | 0 => rtx1
  | 1 => rtx2
  | 2 => rtx3
  | 3 => rtx4
  | 4 => rtx5
  | 5 => rtx6
  | _ => fun d r => .ok (d, r)
/-- What a stage reads. -/
def stgO : Nat → TxD → List UInt8 → Got TxD
  | 0 => fun d s => thenR (numR 4 s) fun n r => .ok ({ d with exp := (n : Int) }, r)
  | 1 => fun d s => thenR (manyR s) fun n r => thenR (listR ptR n r) fun l q => .ok ({ d with ins := l }, q)
  | 2 => fun d s => thenR (manyR s) fun n r => thenR (listR outR n r) fun l q => .ok ({ d with outs := l }, q)
  | 3 => fun d s => thenR (manyR s) fun n r => thenR (anchorR n r) fun k q => thenR (listR keyR n q) fun l q' => .ok ({ d with anchor := k, nulls := l }, q')
  | 4 => fun d s => thenR (manyR s) fun n r => thenR (listR keyR n r) fun l q => .ok ({ d with notes := l }, q)
  | 5 => fun d s => thenR (numR 8 s) fun n r => .ok ({ d with bal := i64N n }, r)
  | _ => fun d r => .ok (d, r)
theorem stg_next (j : Nat) (d : TxD) (s : List UInt8) : stg j d s = thenR (stgO j d s) (stg (j + 1)) := by
  match j with
  | 0 => show thenR _ _ = thenR (thenR _ _) _; rw [thenR_assoc]; rfl
  | 1 => show thenR _ _ = thenR (thenR _ _) _; rw [thenR_assoc]; congr 1; funext n r; rw [thenR_assoc]; rfl
  | 2 => show thenR _ _ = thenR (thenR _ _) _; rw [thenR_assoc]; congr 1; funext n r; rw [thenR_assoc]; rfl
  | 3 => show thenR _ _ = thenR (thenR _ _) _; rw [thenR_assoc]; congr 1; funext n r; rw [thenR_assoc]; congr 1; funext k q; rw [thenR_assoc]; rfl
  | 4 => show thenR _ _ = thenR (thenR _ _) _; rw [thenR_assoc]; congr 1; funext n r; rw [thenR_assoc]; rfl
  | 5 => show thenR _ _ = thenR (thenR _ _) _; rw [thenR_assoc]; rfl
  | n + 6 => rfl
theorem stgO_ok (j : Nat) {d d' : TxD} {s r : List UInt8} (h : stgO j d s = .ok (d', r)) : r.length ≤ s.length ∧ (j + 1 ≤ 3 → d'.anchor = d.anchor) := by
  match j, h with
  | 0, h =>
    obtain ⟨n, q, h1, h⟩ := thenR_inv h
    injection h with h; injection h with h2 h3; subst h2 h3
    exact ⟨(numR_le h1).1, fun _ => rfl⟩
  | 1, h =>
    obtain ⟨n, q, h1, h⟩ := thenR_inv h
    obtain ⟨l, q', h4, h⟩ := thenR_inv h
    injection h with h; injection h with h2 h3; subst h2 h3
    have := (manyR_le h1).1
    have := (listR_le (fun _ _ _ h => ptR_le h) _ _ _ _ h4).1
    exact ⟨by omega, fun _ => rfl⟩
  | 2, h =>
    obtain ⟨n, q, h1, h⟩ := thenR_inv h
    obtain ⟨l, q', h4, h⟩ := thenR_inv h
    injection h with h; injection h with h2 h3; subst h2 h3
    have := (manyR_le h1).1
    have := (listR_le (fun _ _ _ h => outR_le h) _ _ _ _ h4).1
    exact ⟨by omega, fun _ => rfl⟩
  | 3, h =>
    obtain ⟨n, q, h1, h⟩ := thenR_inv h
    obtain ⟨k, q', h4, h⟩ := thenR_inv h
    obtain ⟨l, q'', h5, h⟩ := thenR_inv h
    injection h with h; injection h with h2 h3; subst h2 h3
    have := (manyR_le h1).1
    have := anchorR_le h4
    have := (listR_le (fun _ _ _ h => keyR_le h) _ _ _ _ h5).1
    exact ⟨by omega, fun h => by omega⟩
  | 4, h =>
    obtain ⟨n, q, h1, h⟩ := thenR_inv h
    obtain ⟨l, q', h4, h⟩ := thenR_inv h
    injection h with h; injection h with h2 h3; subst h2 h3
    have := (manyR_le h1).1
    have := (listR_le (fun _ _ _ h => keyR_le h) _ _ _ _ h4).1
    exact ⟨by omega, fun h => by omega⟩
  | 5, h =>
    obtain ⟨n, q, h1, h⟩ := thenR_inv h
    injection h with h; injection h with h2 h3; subst h2 h3
    exact ⟨(numR_le h1).1, fun h => by omega⟩
  | n + 6, h =>
    injection h with h; injection h with h2 h3; subst h2 h3
    exact ⟨Nat.le_refl _, fun h => by omega⟩
theorem stgO_errne (j : Nat) {d : TxD} {s : List UInt8} {x : Int} (h : stgO j d s = .error x) : ¬ x = 0 := by
  match j, h with
  | 0, h =>
    rcases thenR_err h with h | ⟨y, r, _, h⟩
    · exact numR_errne h
    · cases h
  | 1, h =>
    rcases thenR_err h with h | ⟨y, r, _, h⟩
    · exact manyR_errne h
    · rcases thenR_err h with h | ⟨y, r, _, h⟩
      · exact listR_errne (fun _ _ h => ptR_errne h) _ _ _ h
      · cases h
  | 2, h =>
    rcases thenR_err h with h | ⟨y, r, _, h⟩
    · exact manyR_errne h
    · rcases thenR_err h with h | ⟨y, r, _, h⟩
      · exact listR_errne (fun _ _ h => outR_errne h) _ _ _ h
      · cases h
  | 3, h =>
    rcases thenR_err h with h | ⟨y, r, _, h⟩
    · exact manyR_errne h
    · rcases thenR_err h with h | ⟨y, r, _, h⟩
      · exact anchorR_errne h
      · rcases thenR_err h with h | ⟨y, r, _, h⟩
        · exact listR_errne (fun _ _ h => keyR_errne h) _ _ _ h
        · cases h
  | 4, h =>
    rcases thenR_err h with h | ⟨y, r, _, h⟩
    · exact manyR_errne h
    · rcases thenR_err h with h | ⟨y, r, _, h⟩
      · exact listR_errne (fun _ _ h => keyR_errne h) _ _ _ h
      · cases h
  | 5, h =>
    rcases thenR_err h with h | ⟨y, r, _, h⟩
    · exact numR_errne h
    · cases h
  | n + 6, h => cases h
theorem stg_errne : ∀ (k j : Nat) (d : TxD) (s : List UInt8) (x : Int), j + k = 6 → stg j d s = .error x → ¬ x = 0
  | 0, j, d, s, x, hj, h => by
    obtain rfl : j = 6 := by omega
    cases h
  | k + 1, j, d, s, x, hj, h => by
    rw [stg_next] at h
    rcases thenR_err h with h | ⟨y, r, _, h⟩
    · exact stgO_errne j h
    · exact stg_errne k (j + 1) _ _ _ (by omega) h
theorem txR_errne {s : List UInt8} {x : Int} (h : txR s = .error x) : ¬ x = 0 := by
  unfold txR at h
  exact stg_errne 6 0 _ _ _ rfl h
/-- part, at any place. -/
theorem part_any (j : Nat) (hj : j < 6) (t : TxV) (d : TxD) (s : List UInt8) (W : World) (B : Nat) (h : TxO B W t d) (hB : B ≤ W.heap.size) (hs : s.length ≤ 1000000) (h1 : j ≤ 1 → t.ins = Sl.nil) (h2 : j ≤ 2 → t.outs = Sl.nil) (h3 : j ≤ 3 → d.anchor = zeroKey) :
    Calls Try.prog 101 #[.agg (txC t).toArray, .int .i64 (j : Int), .string (sB s)] W (PtTo B W (fun t' => (j + 1 ≤ 1 → t'.ins = Sl.nil) ∧ (j + 1 ≤ 2 → t'.outs = Sl.nil)) (stgO j d s)) := by
  have mono : ∀ {Q Q' : TxV → Prop} {o : Got TxD} {e : Ending} {w' : World}, (∀ t, Q t → Q' t) → PtTo B W Q o e w' → PtTo B W Q' o e w' := by
    intro Q Q' o e w' hq h
    cases o with
    | error x => exact h
    | ok p => obtain ⟨t', a, b, c, d⟩ := h; exact ⟨t', a, b, hq _ c, d⟩
  match j, hj with
  | 0, _ => exact (part0 t d s W B h hB hs).mono fun _ _ => mono fun t' ht => ⟨fun _ => ht.1.trans (h1 (by omega)), fun _ => ht.2.trans (h2 (by omega))⟩
  | 1, _ => exact (part1 t d s W B h hB hs (h1 (by omega))).mono fun _ _ => mono fun t' ht => ⟨fun hh => by omega, fun _ => ht.trans (h2 (by omega))⟩
  | 2, _ => exact (part2 t d s W B h hB hs (h2 (by omega))).mono fun _ _ => mono fun t' ht => ⟨fun hh => by omega, fun hh => by omega⟩
  | 3, _ => exact (part3 t d s W B h hB hs (h3 (by omega))).mono fun _ _ => mono fun t' ht => ⟨fun hh => by omega, fun hh => by omega⟩
  | 4, _ => exact (part4 t d s W B h hB hs).mono fun _ _ => mono fun t' ht => ⟨fun hh => by omega, fun hh => by omega⟩
  | 5, _ => exact (part5 t d s W B h hB hs).mono fun _ _ => mono fun t' ht => ⟨fun hh => by omega, fun hh => by omega⟩
theorem ReadTo.mk {W w' : World} {o : Got TxD} {d : TxD} {r : List UInt8} {t : TxV} (h : o = .ok (d, r)) (hl : TxO W.heap.size w' t d) (hb : Below W.heap.size W w') : ReadTo W o (.returned (valR t r 0)) w' := by subst h; exact ⟨t, rfl, hl, hb⟩
theorem ReadTo.err {W w' : World} {o : Got TxD} {x : Int} (h : o = .error x) (hb : Below W.heap.size W w') : ReadTo W o (.returned (valR zeroTx [] x)) w' := by subst h; exact ⟨rfl, hb⟩
theorem zeroTx_L (w : World) : TxL w zeroTx zeroD := ⟨SL.nil _ _ _, SL.nil _ _ _, SL.nil _ _ _, SL.nil _ _ _, (fun p h => nomatch h), (fun p h => nomatch h), ⟨rfl, by decide, by decide⟩, rfl, ⟨rfl, by decide, by decide⟩⟩

attribute [local irreducible] Int.lt Int.le
attribute [local go_sem ↓] load_key store_key alloc_key build0_key eq_key load_point store_point alloc_point load_out store_out alloc_out load_tx store_tx alloc_tx build0_tx build_pt build_out one_key one_point one_out rappend_pt rappend_out rappend_key
attribute [local go_sem] rowOf_drew rowOf_alloc_old rowOf_alloc_new canPut_drew canPut_alloc_old canPut_alloc_new setCells_alloc_new

theorem PB2.setT {B : Nat} {t : TxV} {w : World} (h : PB2 B zeroTx w) (ht : w.heap[B + 1]? = some (.cells (txC t).toArray 41 (0, 0))) : True := trivial
/-- What Read's two variables hold: what it hands back, and what it has. -/
structure QB (B : Nat) (t : TxV) (w : World) : Prop where
  res : w.heap[B]? = some (.cells (txC zeroTx).toArray 41 (0, 0))
  tx : w.heap[B + 1]? = some (.cells (txC t).toArray 41 (0, 0))
theorem QB.below {B : Nat} {t : TxV} {w w' : World} (h : QB B t w) (hb : Below w.heap.size w w') : QB B t w' := ⟨keepBlock hb h.res, keepBlock hb h.tx⟩
theorem QB.put {B : Nat} {t : TxV} {w : World} (h : QB B t w) (t' : TxV) : QB B t' (w.setCells (B + 1) 0 (txC t')) :=
  ⟨by rw [heap_setCells_ne (by omega)]; exact h.res, heap_setCells_all h.tx (by rw [txC_length, txC_length])⟩
theorem QB.walk {B : Nat} {t : TxV} {w : World} (h : QB B t w) : rowOf w (B + 1) 0 38 = some (txC t) ∧ canPut w (B + 1) 0 38 = true ∧ canPut w B 0 38 = true ∧ B < w.heap.size ∧ B + 1 < w.heap.size :=
  ⟨tx_row h.tx, canPut_block h.tx 0 38 (by simp [txC_length]), canPut_block h.res 0 38 (by simp [txC_length]), (Array.getElem?_eq_some_iff.1 h.res).1, (Array.getElem?_eq_some_iff.1 h.tx).1⟩
theorem QB.fin {W w : World} {t : TxV} (h : QB W.heap.size t w) (hb : Below W.heap.size W w) (t' : TxV) : rowOf (w.setCells W.heap.size 0 (txC t')) W.heap.size 0 38 = some (txC t') ∧ Below W.heap.size W (w.setCells W.heap.size 0 (txC t')) :=
  ⟨row38_put h.res t', below_setCells (Nat.le_refl _) _ _ _ _ hb⟩
theorem QB.start (W : World) : QB W.heap.size zeroTx ((W.alloc (.cells (txC zeroTx).toArray 41)).alloc (.cells (txC zeroTx).toArray 41)) := ⟨(PB2.start W zeroTx).tx, (PB2.start W zeroTx).res⟩

set_option maxHeartbeats 4000000 in
theorem refTxRead_any (s : List UInt8) (W : World) (hs : s.length ≤ 1000000) : Calls Try.prog 64 #[.string (sB s)] W (ReadTo W (txR s)) := by
  have P0 := QB.start W
  have B0 : Below W.heap.size W ((W.alloc (.cells (txC zeroTx).toArray 41)).alloc (.cells (txC zeroTx).toArray 41)) := ((Below.refl _ _).alloc (Nat.le_refl _) _).alloc (by simp) _
  have T0 := TxO.zero (W.heap.size + 2) ((W.alloc (.cells (txC zeroTx).toArray 41)).alloc (.cells (txC zeroTx).toArray 41))
  have hsb := Box.mk hs
  have hstart : txR s = stg 0 zeroD s := by unfold txR; rfl
  obtain ⟨o, ho⟩ : ∃ o, txR s = o := ⟨_, rfl⟩
  rw [ho]
  rw [ho] at hstart
  replace hstart := Box.mk hstart
  replace ho := Box.mk ho
  clear hs
  go_enter Try.func64, Try.ntmps64
  go_wp2_with fail
  generalize ((W.alloc (.cells (txC zeroTx).toArray 41)).alloc (.cells (txC zeroTx).toArray 41)) = w0 at *
  go_loopw [0, 6] (fun sv i wr => Below W.heap.size W wr ∧ W.heap.size + 2 ≤ wr.heap.size ∧ ∃ j : Nat, ∃ t : TxV, ∃ d : TxD, ∃ s' : List UInt8, j ≤ 6 ∧ i = .int .i64 j ∧ sv = .string (sB s') ∧ s'.length ≤ 1000000 ∧ QB W.heap.size t wr ∧ TxO (W.heap.size + 2) wr t d ∧ o = stg j d s' ∧ (j ≤ 1 → t.ins = Sl.nil) ∧ (j ≤ 2 → t.outs = Sl.nil) ∧ (j ≤ 3 → d.anchor = zeroKey)) (fun _ i _ => 6 - (intOf i).toNat)
  case atStart => exact ⟨B0, by have := P0.walk.2.2.2.2; omega, 0, zeroTx, zeroD, s, Nat.zero_le _, rfl, rfl, hsb.out, P0, T0, hstart.out, fun _ => rfl, fun _ => rfl, fun _ => rfl⟩
  case round =>
    clear B0 T0
    replace P0 := Box.mk P0
    obtain ⟨hbr, hsz2, j, t, d, s', hj, rfl, rfl, hsl, P, T, heq, h1, h2, h3⟩ := hrel
    by_cases hlt : j < 6
    · have hlt' : (j : Int) < 6 := by omega
      have hC := part_any j hlt t d s' wr (W.heap.size + 2) T hsz2 hsl h1 h2 h3
      have hnx := stg_next j d s'
      have hook := fun d' r => stgO_ok j (d := d) (d' := d') (s := s') (r := r)
      have herr := fun x => stgO_errne j (d := d) (s := s') (x := x)
      obtain ⟨p, hp⟩ : ∃ p, stgO j d s' = p := ⟨_, rfl⟩
      rw [hp] at hC hnx
      simp only [hp] at hook herr
      obtain ⟨c1, c2, c3, c4, c5⟩ := P.walk
      replace h1 := Box.mk h1
      replace h2 := Box.mk h2
      replace h3 := Box.mk h3
      replace hp := Box.mk hp
      replace T := Box.mk T
      replace hsl := Box.mk hsl
      replace heq := Box.mk (heq.trans hnx)
      clear hnx
      replace hook := Box.mk hook
      replace herr := Box.mk herr
      go_wp2_with fail
      refine hC.mono ?_
      clear c1 c2 c3 c4 c5 hC
      cases p with
      | error x =>
        rintro e w1 ⟨hx, ⟨t', r, rfl⟩, b1⟩
        have hO : o = .error x := heq.out
        have P1 := P.below b1
        have B1 := since_next hbr b1
        have b2 : Below w1.heap.size w1 (w1.alloc (.cells (txC t').toArray 41)) := (Below.refl _ _).alloc (Nat.le_refl _) _
        have P2 := P1.below b2
        obtain ⟨hrow, BF⟩ := P2.fin (since_next B1 b2) zeroTx
        obtain ⟨c1, c2, c3, c4, c5⟩ := P2.walk
        replace P := Box.mk P
        replace P1 := Box.mk P1
        replace P2 := Box.mk P2
        replace hO := Box.mk hO
        replace b2 := Box.mk b2
        unfold valR
        go_wp2
        refine bodyPost_ret (v := valR zeroTx [] x) (res3 Try.results64 (res_tx (b := W.heap.size) (o := 0) (by simp [go_sem]) hrow) (v2 := .string (sB [])) (v3 := .int .i64 x) (by simp [oneRes]; try rfl) (by simp [oneRes]; try rfl)) rfl ?_
        exact ReadTo.err hO.out BF
      | ok y =>
        obtain ⟨d', r⟩ := y
        rintro e w1 ⟨t', rfl, T1, hq, b1⟩
        obtain ⟨hle, hanc⟩ := hook.out d' r rfl
        have hO : o = stg (j + 1) d' r := heq.out
        have P1 := P.below b1
        have B1 := since_next hbr b1
        have z1 := b1.size
        have A := heap_alloc_new w1 (.cells (txC t').toArray 41)
        have b2 : Below w1.heap.size w1 (w1.alloc (.cells (txC t').toArray 41)) := (Below.refl _ _).alloc (Nat.le_refl _) _
        have z2 : (w1.alloc (.cells (txC t').toArray 41)).heap.size = w1.heap.size + 1 := by simp
        have P2 := P1.below b2
        have B2 := since_next B1 b2
        have T2 := T1.below b2
        have P3 := P2.put t'
        have B3 := below_setCells (B := W.heap.size) (b := W.heap.size + 1) (Nat.le_succ _) (txC t') 0 _ _ B2
        have T3 := T2.congr (w' := (w1.alloc (.cells (txC t').toArray 41)).setCells (W.heap.size + 1) 0 (txC t')) (fun g hg hl => heap_setCells_ne (by omega) _ _)
        have z3 : ((w1.alloc (.cells (txC t').toArray 41)).setCells (W.heap.size + 1) 0 (txC t')).heap.size = w1.heap.size + 1 := by rw [setCells_size, z2]
        have ra := tx_row A
        have sa : w1.heap.size < (w1.alloc (.cells (txC t').toArray 41)).heap.size := by omega
        obtain ⟨c1, c2, c3, c4, c5⟩ := P2.walk
        replace P := Box.mk P
        replace P1 := Box.mk P1
        replace P2 := Box.mk P2
        replace P3 := Box.mk P3
        replace T1 := Box.mk T1
        replace T2 := Box.mk T2
        replace T3 := Box.mk T3
        replace hO := Box.mk hO
        replace b2 := Box.mk b2
        replace A := Box.mk A
        replace z3 := Box.mk z3
        replace hq := Box.mk hq
        replace hanc := Box.mk hanc
        unfold valR
        go_wp2
        go_roundw
        case rel => exact ⟨B3, by have := z3.out; omega, j + 1, t', d', r, by omega, by go_num, rfl, by have := hsl.out; omega, P3.out, T3.out, hO.out, hq.out.1, hq.out.2, fun hh => (hanc.out hh).trans (h3.out (by omega))⟩
        case measure => simp [intOf]; omega
    · obtain rfl : j = 6 := by omega
      have hO : o = .ok (d, s') := heq
      obtain ⟨hrow, BF⟩ := P.fin hbr t
      obtain ⟨c1, c2, c3, c4, c5⟩ := P.walk
      have TF := T.congr (w' := wr.setCells W.heap.size 0 (txC t)) (fun g hg hl => heap_setCells_ne (by omega) _ _)
      replace P := Box.mk P
      replace T := Box.mk T
      replace TF := Box.mk TF
      replace hO := Box.mk hO
      replace heq := Box.mk heq
      clear h1 h2 h3
      go_wp2
      refine bodyPost_ret (v := valR t s' 0) (res3 Try.results64 (res_tx (b := W.heap.size) (o := 0) (by simp [go_sem]) hrow) (v2 := .string (sB s')) (v3 := .int .i64 0) (by simp [oneRes]; try rfl) (by simp [oneRes]; try rfl)) rfl ?_
      exact ReadTo.mk hO.out (TF.out.mono (by omega)) BF

/-- What Decode comes to. -/
def DecTo (W : World) : Except Int TxD → Ending → World → Prop
  | .ok d, e, w' => ∃ t, e = .returned (.tuple #[.agg (txC t).toArray, .int .i64 0]) ∧ TxL w' t d ∧ Below W.heap.size W w'
  | .error x, e, w' => e = .returned (.tuple #[.agg (txC zeroTx).toArray, .int .i64 x]) ∧ Below W.heap.size W w'
theorem DecTo.mk {W w' : World} {o : Except Int TxD} {d : TxD} {t : TxV} (h : o = .ok d) (hl : TxL w' t d) (hb : Below W.heap.size W w') : DecTo W o (.returned (.tuple #[.agg (txC t).toArray, .int .i64 0])) w' := by subst h; exact ⟨t, rfl, hl, hb⟩
theorem DecTo.err {W w' : World} {o : Except Int TxD} {x : Int} (h : o = .error x) (hb : Below W.heap.size W w') : DecTo W o (.returned (.tuple #[.agg (txC zeroTx).toArray, .int .i64 x])) w' := by subst h; exact ⟨rfl, hb⟩
theorem isEmpty_ne {r : List UInt8} (h : r ≠ []) : r.isEmpty = false := by cases r with | nil => exact absurd rfl h | cons x l => rfl



end Go.Proofs.Ytahkiabpjfcfdaa
