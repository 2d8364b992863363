/- Package block: Notes. -/
import Derived.Test.YtahkiabpjfcfdaaBlkEach
import Derived.Test.YtahkiabpjfcfdaaBase2
namespace Go.Proofs.Ytahkiabpjfcfdaa
open Go.RowKit Go.Shelf
set_option linter.unusedVariables false
set_option linter.unusedSimpArgs false
set_option maxRecDepth 100000
attribute [local go_sem] Oper.semAt_some
attribute [local go_sem ↓] semAt_run
attribute [local irreducible] Int.lt Int.le
attribute [local go_sem ↓] load_key store_key alloc_key build0_key eq_key load_point store_point alloc_point load_out store_out alloc_out load_tx store_tx alloc_tx load_blk store_blk alloc_blk build0_blk append_key
attribute [local go_sem] rowOf_drew rowOf_alloc_old rowOf_alloc_new canPut_drew canPut_alloc_old canPut_alloc_new setCells_alloc_new

/-- A block of cells stays as it lies when only other objects turn. -/
theorem cells_kept {W W' : World} {row : Option Nat} {b : Nat} {cs : Array Value} {t : TypeId} {z : Nat × Nat} (h : W.heap[b]? = some (.cells cs t z)) (hg : W.grownBy W' row) (hr : ∀ r, row = some r → ∃ o : Obj, W.heap[r]? = some o ∧ o.isCells = false) : W'.heap[b]? = some (.cells cs t z) :=
  (hg.block b (Array.getElem?_eq_some_iff.1 h).1 (fun e => by obtain ⟨o, ho, hc⟩ := hr b e.symm; rw [h] at ho; cases ho; cases hc)).trans h
theorem own_kept {α : Type} {f : α → List Value} {n : Nat} {e : TypeId} {W W' : World} {row : Option Nat} {base : Nat} {v : Value} {l : List α} (h : Own f n e W base v l) (hg : W.grownBy W' row) (hr : ∀ r, row = some r → ∃ o : Obj, W.heap[r]? = some o ∧ o.isCells = false) : Own f n e W' base v l := by
  obtain ⟨h1, h2⟩ := h
  refine ⟨h1, ?_⟩
  rcases h2 with h2 | ⟨g, cap, cur, hv, hg', hh, r⟩
  · exact .inl h2
  · exact .inr ⟨g, cap, cur, hv, hg', cells_kept hh hg hr, r⟩
/-- The block that a slice of the call's own lies in is a row of cells. -/
theorem own_cells {α : Type} {f : α → List Value} {n : Nat} {e : TypeId} {W : World} {base : Nat} {v : Value} {l : List α} (h : Own f n e W base v l) : ∀ (j : Nat) (o : Obj), v.ownBlock = some j → W.heap[j]? = some o → o.isCells = true := by
  intro j o hj ho
  rcases h.2 with ⟨rfl, _⟩ | ⟨g, cap, cur, rfl, hg', hh, r⟩
  · cases hj
  · cases hj
    rw [hh] at ho
    cases ho; rfl
/-- 'append' of any keys to a slice of the call's own: nothing but the slice's row turns. -/
theorem app_kk {w : World} {base : Nat} {u : Option Addr} {n0 c0 : Nat} {l : List Key} {ty : TypeId} (hown : KOwn w base (.slice u n0 c0) l) (hbase : base ≤ w.heap.size) (a : Option Addr) (n cap : Nat) (m : List Key) (hm : SL keyC 32 w a n cap m) (hlen : l.length + m.length ≤ 2000000) :
    ∃ u' n' c' w', appTo Try.prog 39 ty w (.slice u n0 c0) (.slice a n cap) = .ok (.value (.slice u' n' c')) w' ∧ KOwn w' base (.slice u' n' c') (l ++ m) ∧ Below base w w' ∧ KeepsOthers w w' ∧ n' = l.length + m.length := by
  obtain rfl := hm.1
  by_cases hne : m = []
  · subst hne
    have hs := hown.sl'
    refine ⟨u, n0, c0, w, app_no_keys u n0 c0 hs.2.2.1 hs.2.2.2.2.1 a cap, by rw [List.append_nil]; exact hown, Below.refl _ _, KeepsOthers.refl _, hs.1⟩
  · obtain ⟨g, cap', w1, hap, hown', hgr, _⟩ := app_keys (ty := ty) hown hbase a cap m hm hne hlen
    have hb := grown_below hgr hown.ownBlock_le hbase
    exact ⟨_, _, _, w1, hap, hown', hb, KeepsOthers.of_grownBy hgr (own_cells hown), rfl⟩

/-- The list that Notes has gathered. -/
structure NI (s : Nat) {w : World} (pre : List (TQ w)) (W : World) : Prop where
  box : ∃ u n c, W.heap[s + 1]? = some (.cells #[.slice u n c] 39 (0, 0)) ∧ KOwn W (s + 1 + 1) (.slice u n c) (notesL (dsOf pre))
  big : s + 2 < W.heap.size
  few : (notesL (dsOf pre)).length ≤ 60 * pre.length
/-- The variable of a round. -/
def NA (s : Nat) (tm : Value → Array Value) {w : World} (x : TQ w) (a' : Act) (W : World) : Prop := ∃ c, s + 2 < c ∧ W.heap[c]? = some (.cells (txC x.1.1).toArray 41 (0, 0)) ∧ a' = { tmps := tm (.pointer (some ⟨c, 0, none⟩)), defers := [] }
theorem Own.setBelow' {α : Type} {f : α → List Value} {n : Nat} {e : TypeId} {w : World} {base : Nat} {v : Value} {l : List α} (h : Own f n e w base v l) {b o : Nat} (hb : b < base) (u : Value) : Own f n e (w.setCell ⟨b, o, none⟩ u) base v l :=
  h.congr fun c hc _ => Below.heap_setCell _ _ _ _ (by show c ≠ b; omega)
theorem NA.kept {s : Nat} {tm : Value → Array Value} {w : World} {x : TQ w} {a' : Act} (B : Nat) : OwnFrom B (fun (_ : Unit) W => NA s tm x a' W) := fun _ W W' row h hg hr => by
  obtain ⟨c, h1, h2, h3⟩ := h
  exact ⟨c, h1, cells_kept h2 hg (fun r e => (hr r e).2), h3⟩
theorem NI.kept {s : Nat} {w : World} (B : Nat) : OwnFrom B (fun (pre : List (TQ w)) W => NI s pre W) := fun pre W W' row h hg hr => by
  obtain ⟨⟨u, n, c, h1, h2⟩, hb, h3⟩ := h
  exact ⟨⟨u, n, c, cells_kept h1 hg (fun r e => (hr r e).2), own_kept h2 hg (fun r e => (hr r e).2)⟩, Nat.lt_of_lt_of_le hb hg.size, h3⟩

set_option maxHeartbeats 2000000 in
theorem notes_in (n : Nat) (hn : 3 ≤ n) (v : BlkV) (qs : List (TxV × TxD)) (d : BlkD) (w : World) (h : BlkL w v qs d) (hk : okB d) :
    CallsIn Fence.wide n Try.prog 29 #[.agg (blkC v).toArray] w fun e W' => (∃ a len cap, e = .returned (.slice a len cap) ∧ SL keyC 32 W' a len cap (notesL d.txs)) ∧ Below w.heap.size w W' := by
  have h1 : 1 ≤ n := by omega
  obtain ⟨s, hs⟩ : ∃ s, w.heap.size = s := ⟨_, rfl⟩
  replace h := Box.mk h
  replace hk := Box.mk hk
  refine callsIn_of_wp_marks Try.func29 rfl trivial ?_ rfl
  simp only [Try.ntmps29, List.size_toArray, List.length_cons, List.length_nil, Nat.reduceAdd, Nat.reduceSub, Array.replicate_succ, Array.replicate_zero, List.push_toArray, List.append_toArray, List.nil_append, List.cons_append]
  gi_wp2_with (refine ⟨trivial, ?_⟩; gi_at_call 48; refine (each_in (n - 1) _ _).mono ?_; rintro e w' ⟨rfl, rfl⟩)
  have q1 : ((((w.alloc (.cells (blkC v).toArray 50)).alloc (.cells #[.slice none 0 0] 39)).alloc (.cells (blkC v).toArray 50)).heap[s + 1]?) = some (.cells #[.slice none 0 0] 39 (0, 0)) := by
    have := keepBlock ((Below.refl _ ((w.alloc (.cells (blkC v).toArray 50)).alloc (.cells #[.slice none 0 0] 39))).alloc (Nat.le_refl _) (.cells (blkC v).toArray 50)) (heap_alloc_new (w.alloc (.cells (blkC v).toArray 50)) (.cells #[.slice none 0 0] 39))
    rwa [World.size_alloc, hs] at this
  have q2 : ((((w.alloc (.cells (blkC v).toArray 50)).alloc (.cells #[.slice none 0 0] 39)).alloc (.cells (blkC v).toArray 50)).heap[s + 1 + 1]?) = some (.cells (blkC v).toArray 50 (0, 0)) := by
    have := heap_alloc_new ((w.alloc (.cells (blkC v).toArray 50)).alloc (.cells #[.slice none 0 0] 39)) (.cells (blkC v).toArray 50)
    rwa [World.size_alloc, World.size_alloc, hs] at this
  have hB0 : Below w.heap.size w (((w.alloc (.cells (blkC v).toArray 50)).alloc (.cells #[.slice none 0 0] 39)).alloc (.cells (blkC v).toArray 50)) := ((((Below.refl _ w).alloc (Nat.le_refl _) _).alloc (by simp) _).alloc (by simp; omega) _)
  have hz : (((w.alloc (.cells (blkC v).toArray 50)).alloc (.cells #[.slice none 0 0] 39)).alloc (.cells (blkC v).toArray 50)).heap.size = s + 3 := by simp [hs]
  generalize ((w.alloc (.cells (blkC v).toArray 50)).alloc (.cells #[.slice none 0 0] 39)).alloc (.cells (blkC v).toArray 50) = w3 at *
  replace hs := Box.mk hs
  have hqs : qs.length ≤ 40 := by have := hk.out.1; rw [h.out.cont, List.length_map] at this; exact this
  refine wpIn_rangeFunc_ownH rfl h1 (gf := 81) (lb := #[.pointer (some ⟨s + 1 + 1, 0, none⟩)]) rfl trivial (enters_of Try.func81 (by kernel_rfl) rfl)
    (each_stops (n - 1) (by omega) (s + 1 + 1) w w3 v qs h.out.txs (h.out.ok hk.out) hB0 q2) belowK_t (belowK_b (by have := hs.out; omega)) (Below.refl _ _) (fun _ => rfl)
    (fun pre W => NI s pre W ∧ Below w.heap.size w W)
    (fun c pre W => False ∧ Below w.heap.size w W)
    (OwnFrom.and (NI.kept _) (ownFrom_below (Nat.le_refl _) (by have := hs.out; omega)))
    (fun c => OwnFrom.and (ownFrom_pure _ _) (ownFrom_below (Nat.le_refl _) (by have := hs.out; omega)))
    ⟨⟨⟨none, 0, 0, q1, Own.nil _ _ _ _ _⟩, by omega, by simp [dsOf, notesL]⟩, hB0⟩
    (fun x a' W => NA s (fun p => #[.agg (blkC v).toArray, .pointer (some ⟨s, 0, none⟩), .slice none 0 0, .pointer (some ⟨s + 1, 0, none⟩), p, .agg (blkC v).toArray, .func (.func 81) #[] #[.pointer (some ⟨s + 1 + 1, 0, none⟩)], .agg (txC x.1.1).toArray, undef, undef, undef, undef, undef]) x a' W)
    (fun x a' => NA.kept _) ?assign ?body ?done ?stop
  case assign =>
    intro l pre x W K hI hK
    have hsz := hI.1.big
    have hB := hI.2
    have hI1 := hI.1
    have hsz3 := hB.size
    replace hI := Box.mk hI
    replace hB := Box.mk hB
    gi_wp2
    refine hK _ _ ((KeepsOthers.alloc W _).from _) ((Below.refl _ W).alloc (by assumption) _) ⟨NI.kept 0 _ _ _ none hI1 (World.grownBy_alloc _ _ none) (fun r e => by cases e), hB.out.alloc (by assumption) _⟩ ⟨W.heap.size, hsz, heap_alloc_new W _, rfl⟩
  case body =>
    rintro l pre x a' W hl hrec ⟨⟨⟨u, m, c, hu, hown⟩, hbig, hfew⟩, hB⟩ ⟨g, hg, hc, rfl⟩ hlen
    obtain ⟨t0, t1, t2, t3, t4, t5, t6, t7⟩ := tx_all hc
    have bx : Boxed W (s + 1) 39 (.slice u m c) := hu
    have e0 := bx.cell
    have f0 := bx.frozen
    have hN := x.2.1.notes.below hB
    have hn60 := x.2.2.2.2.2
    have hlt : s + 1 + 1 ≤ W.heap.size := by omega
    obtain ⟨u', m', c', w', hap, hown', hb', hko, rfl⟩ := app_kk (ty := 39) hown hlt _ _ _ _ hN (by omega)
    have hkn := Box.mk hn60
    have hsn := notesL_snoc (dsOf pre) x.1.2
    have hds : dsOf (pre ++ [x]) = dsOf pre ++ [x.1.2] := by unfold dsOf; simp
    replace hsn := Box.mk hsn
    replace hds := Box.mk hds
    clear t1 t2 t3 t4 t5 t7
    have bx' : Boxed w' (s + 1) 39 (.slice u m c) := (hb'.block _ (by omega)).trans bx
    have e1 := bx'.cell
    have f1 := bx'.frozen
    gi_wp2
    have hBW : Below w.heap.size W w' := hb'.mono (by rw [hs.out]; omega)
    refine ⟨(hko.trans (KeepsOthers.setCell _ _ _)).from _, hBW.setCell (p := ⟨s + 1, 0, none⟩) (by rw [hs.out]; simp) _, ⟨⟨_, _, _, bx'.set _, ?_⟩, ?_, ?_⟩, (hB.trans hBW).setCell (p := ⟨s + 1, 0, none⟩) (by rw [hs.out]; simp) _⟩
    · rw [hds.out, hsn.out]; exact Own.setBelow' hown' (b := s + 1) (o := 0) (show s + 1 < s + 1 + 1 by omega) _
    · have := hko.size; simp [World.setCell]; omega
    · rw [hds.out, hsn.out, List.length_append, List.length_append]; have := hkn.out; simp; omega
  case done =>
    rintro D ys W hD rfl ⟨⟨⟨u, m, c, hu, hown⟩, hbig, hfew⟩, hB⟩ hK
    have bx : Boxed W (s + 1) 39 (.slice u m c) := hu
    have e0 := bx.cell
    have hds := Box.mk (dsOf_tqs h.out (h.out.ok hk.out))
    gi_wp2
    refine ⟨by simp, .inl ⟨_, _, rfl, run_takeDeferred hK, ?_⟩⟩
    have hBe := belowK_b (w := w) (Nat.le_refl _) W D (.deferred (some [])) (.deferred none) (by have := hs.out; omega) hK rfl rfl
    refine ⟨.slice u m c, ?_, ⟨_, _, _, rfl, ?_⟩, hB.trans hBe⟩
    · simp [results, Try.f29, go_sem]
    · rw [← hds.out]
      exact (own_kept hown (grownBy_putObj' W D (.deferred none)) (fun r e => by cases e; exact ⟨_, hK, rfl⟩)).sl'.2
  case stop =>
    rintro D c pre W hD hpre ⟨hf, _⟩ hK
    exact hf.elim

theorem notes_any (v : BlkV) (qs : List (TxV × TxD)) (d : BlkD) (w : World) (h : BlkL w v qs d) (hk : okB d) :
    Calls Try.prog 29 #[.agg (blkC v).toArray] w fun e W' => (∃ a len cap, e = .returned (.slice a len cap) ∧ SL keyC 32 W' a len cap (notesL d.txs)) ∧ Below w.heap.size w W' :=
  (callsIn_wide.1 (notes_in 3 (Nat.le_refl _) v qs d w h hk)).mono fun e w' h => h

end Go.Proofs.Ytahkiabpjfcfdaa
