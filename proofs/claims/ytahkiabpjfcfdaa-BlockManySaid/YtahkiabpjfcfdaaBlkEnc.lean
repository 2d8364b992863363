/- Package block: Encode. -/
import Derived.Test.YtahkiabpjfcfdaaBlkSigs
import Derived.Test.YtahkiabpjfcfdaaJoin
import Derived.Test.YtahkiabpjfcfdaaBase
namespace Go.Proofs.Ytahkiabpjfcfdaa
open Go.RowKit Go.Shelf
set_option linter.unusedVariables false
set_option linter.unusedSimpArgs false
set_option maxRecDepth 100000
attribute [local go_sem] Oper.semAt_some
attribute [local go_sem ↓] semAt_run
attribute [local irreducible] Int.lt Int.le
attribute [local go_sem ↓] load_key store_key alloc_key build0_key eq_key load_point store_point alloc_point load_out store_out alloc_out load_tx store_tx alloc_tx load_blk store_blk alloc_blk build0_blk append_key
attribute [local go_sem] rowOf_drew rowOf_alloc_old rowOf_alloc_new canPut_drew canPut_alloc_old canPut_alloc_new setCells_alloc_new

theorem blkC_g64 (v : BlkV) (h : 64 < (blkC v).length) : (blkC v)[64] = .int .u32 v.nonce := Option.some.inj ((List.getElem?_eq_getElem h).symm.trans (blkC_64 v))
theorem blkC_g65 (v : BlkV) (h : 65 < (blkC v).length) : (blkC v)[65] = .slice v.txs.a v.txs.len v.txs.cap := Option.some.inj ((List.getElem?_eq_getElem h).symm.trans (blkC_65 v))
attribute [local go_sem] blkC_g64 blkC_g65
theorem blkV_zero {d : BlkD} (h : d.txs.length = 0) : blkV d = ([], 110) := by unfold blkV blkR; rw [if_pos h]
theorem blkV_many {d : BlkD} (h0 : ¬ d.txs.length = 0) (h : 30 < d.txs.length) : blkV d = ([], 51) := by unfold blkV blkR; rw [if_neg h0, if_pos h]
theorem blkV_ok {d : BlkD} {s : List UInt8} (h0 : ¬ d.txs.length = 0) (h : ¬ 30 < d.txs.length) (he : encTxs d.txs = .ok s) : blkV d = (blkHead d ++ s, 0) := by unfold blkV blkR; rw [if_neg h0, if_neg h, he]
theorem blkV_err {d : BlkD} {x : Int} (h0 : ¬ d.txs.length = 0) (h : ¬ 30 < d.txs.length) (he : encTxs d.txs = .error x) : blkV d = ([], x) := by unfold blkV blkR; rw [if_neg h0, if_neg h, he]

/-- Strings as cells. -/
def strs (l : List (List UInt8)) : List Value := l.map fun x => .string (sB x)
theorem strs_append (l m : List (List UInt8)) : strs (l ++ m) = strs l ++ strs m := by unfold strs; simp
theorem strs_length (l : List (List UInt8)) : (strs l).length = l.length := by unfold strs; simp
def headL (v : BlkV) (m n : Nat) : List (List UInt8) := [v.prev.val, v.root.val, putL m 4, compactL n]
theorem headL_flat {v : BlkV} {d : BlkD} {m : Nat} (hp : v.prev = d.prev) (hr : v.root = d.root) (hm : d.nonce.toNat = m) : (headL v m d.txs.length).flatten = blkHead d := by
  unfold headL blkHead putL
  rw [if_neg (by omega), hp, hr, hm]
  simp [List.append_assoc]
theorem blkHead_le (d : BlkD) (h : d.txs.length ≤ 40) : (blkHead d).length ≤ 100 := by
  unfold blkHead
  have hc : compactL d.txs.length = le 1 d.txs.length := by unfold compactL; rw [if_pos (by omega)]
  rw [hc]
  simp only [List.length_append, le_length, d.prev.property, d.root.property]
  omega
theorem ownV_kept {e : TypeId} {W W' : World} {row : Option Nat} {base : Nat} {v : Value} {l : List Value} (h : OwnV W base e v l) (hg : W.grownBy W' row) (hr : ∀ r, row = some r → ∃ o : Obj, W.heap[r]? = some o ∧ o.isCells = false) : OwnV W' base e v l := by
  obtain ⟨h1, h2⟩ := h
  refine ⟨h1, ?_⟩
  rcases h2 with h2 | ⟨g, cap, cur, hv, hg', hh, r⟩
  · exact .inl h2
  · exact .inr ⟨g, cap, cur, hv, hg', cells_kept hh hg hr, r⟩
theorem ownV_cells {e : TypeId} {W : World} {base : Nat} {v : Value} {l : List Value} (h : OwnV W base e v l) : ∀ (j : Nat) (o : Obj), v.ownBlock = some j → W.heap[j]? = some o → o.isCells = true := by
  intro j o hj ho
  rcases h.2 with ⟨rfl, _⟩ | ⟨g, cap, cur, rfl, hg', hh, r⟩
  · cases hj
  · cases hj
    rw [hh] at ho
    cases ho; rfl
theorem ownV_set {e t : TypeId} {W : World} {base cb : Nat} {v u z : Value} {l : List Value} (h : OwnV W base e v l) (hb : Boxed W cb t u) (ht : t ≠ e) : OwnV (W.setCell ⟨cb, 0, none⟩ z) base e v l := by
  obtain ⟨h1, h2⟩ := h
  refine ⟨h1, ?_⟩
  rcases h2 with h2 | ⟨g, cap, cur, hv, hg', hh, r⟩
  · exact .inl h2
  · refine .inr ⟨g, cap, cur, hv, hg', (Below.heap_setCell _ _ _ _ (fun e' => ?_)).trans hh, r⟩
    have e'' : g = cb := e'
    subst e''
    rw [show W.heap[g]? = _ from hb] at hh
    injection hh with hh; injection hh with _ hh; exact ht hh
theorem info_str : ∃ i, Try.prog.info? 9 = some i ∧ i.size = 1 ∧ i.bytes = 16 ∧ i.zero = some (.string ⟨#[]⟩) := by
  have h : (Try.prog.info? 9).map (fun i => (i.size, i.bytes, i.zero)) = some (1, 16, some (.string ⟨#[]⟩)) := by kernel_rfl
  obtain ⟨i, hi, h'⟩ := Option.map_eq_some_iff.1 h
  simp only [Prod.mk.injEq] at h'
  exact ⟨i, hi, h'.1, h'.2.1, h'.2.2⟩
theorem append_str (ρ : Operand → Value) (dst : Option Tmp) (x y : Operand) (ty : TypeId) (pos : String) (after : Array Edge) (guard : Option (Nat × Bool)) (w : World) :
    (execOp ρ ⟨dst, .call { callee := .builtin .append, args := #[x, y], argTypes := #[79, 79] }, ty, pos, after, guard⟩).run Try.prog w = appTo Try.prog 79 ty w (ρ x) (ρ y) :=
  exec_append _ ty ρ dst x y pos after guard w
attribute [local go_sem ↓] append_str
theorem app_str {w : World} {base : Nat} {v : Value} {l : List (List UInt8)} {ty : TypeId} (hown : OwnV w base 9 v (strs l)) (hb : base ≤ w.heap.size) (x : List UInt8) (hlen : l.length + 1 ≤ 2000000) :
    ∃ g c' w', appTo Try.prog 79 ty (w.alloc (.cells #[.string (sB x)] 9)) v (.slice (some ⟨w.heap.size, 0, none⟩) 1 1) = .ok (.value (.slice (some ⟨g, 0, none⟩) (l.length + 1) c')) w' ∧ OwnV w' base 9 (.slice (some ⟨g, 0, none⟩) (l.length + 1) c') (strs (l ++ [x])) ∧ (w.alloc (.cells #[.string (sB x)] 9)).grownBy w' v.ownBlock := by
  obtain ⟨i, hi, hs, hby, hz⟩ := info_str
  obtain ⟨g, c', w', h1, h2, h3, _⟩ := appTo_val (ty := ty) Try.underlying79 hi hs hby hz rfl (by omega) hown hb (.string (sB x)) rfl (by rw [strs_length]; exact hlen)
  rw [strs_length] at h1 h2
  exact ⟨g, c', w', h1, by rw [strs_append]; exact h2, h3⟩
/-- What Encode has gathered. -/
structure BEI (s cb : Nat) (H : List (List UInt8)) {w : World} (pre : List (TQ w)) (W : World) : Prop where
  box : ∃ ls u o c, Boxed W cb 79 (.slice u o c) ∧ OwnV W (s + 1 + 1 + 1) 9 (.slice u o c) (strs (H ++ ls)) ∧ encTxs (dsOf pre) = .ok ls.flatten ∧ ls.length = pre.length ∧ ls.flatten.length ≤ 1000000 * pre.length
  str : Boxed W (s + 1) 9 (.string ⟨#[]⟩)
  err : Boxed W (s + 1 + 1) 52 (.int .i64 0)
  big : s + 2 < W.heap.size
theorem BEI.kept {s cb : Nat} {H : List (List UInt8)} {w : World} (B : Nat) : OwnFrom B (fun (pre : List (TQ w)) W => BEI s cb H pre W) := fun pre W W' row h hg hr => by
  obtain ⟨⟨ls, u, o, c, h1, h2, h3⟩, h4, h5, h6⟩ := h
  exact ⟨⟨ls, u, o, c, cells_kept h1 hg (fun r e => (hr r e).2), ownV_kept h2 hg (fun r e => (hr r e).2), h3⟩, cells_kept h4 hg (fun r e => (hr r e).2), cells_kept h5 hg (fun r e => (hr r e).2), Nat.lt_of_lt_of_le h6 hg.size⟩
/-- How Encode leaves its loop: with an errno. -/
def BEX (s : Nat) {w : World} (c : Code) (pre : List (TQ w)) (W : World) : Prop := c = .ret ∧ ∃ y : Int, y ≠ 0 ∧ encTxs (dsOf pre) = .error y ∧ Boxed W (s + 1) 9 (.string ⟨#[]⟩) ∧ Boxed W (s + 1 + 1) 52 (.int .i64 y)
theorem BEX.kept {s : Nat} {w : World} {c : Code} (B : Nat) : OwnFrom B (fun (pre : List (TQ w)) W => BEX s c pre W) := fun pre W W' row h hg hr => by
  obtain ⟨h0, y, h1, h2, h3, h4⟩ := h
  exact ⟨h0, y, h1, h2, cells_kept h3 hg (fun r e => (hr r e).2), cells_kept h4 hg (fun r e => (hr r e).2)⟩
/-- The four strings ahead of the transactions. -/
def head4 (v : BlkV) (m n : Nat) : Array Value := #[.string (sB v.prev.val), .string (sB v.root.val), .string (sB (putL m 4)), .string (sB (compactL n))]
/-- Where the walk stands once the list is begun. -/
def MID (s : Nat) (v : BlkV) (d : BlkD) (m : Nat) (w8 : World) : Exit → Act → World → Prop := fun e a' w' => e = .normal ∧ ∃ cb cr, s + 2 < cb ∧ s + 2 < cr ∧ cb ≠ cr ∧ Boxed w' cb 79 (.slice (some ⟨cr, 0, none⟩) 4 4) ∧ w'.heap[cr]? = some (.cells (head4 v m d.txs.length) 9 (0, 0)) ∧ Below w8.heap.size w8 w' ∧ a' = { tmps := #[.agg (blkC v).toArray, .pointer (some ⟨s, 0, none⟩), .pointer (some ⟨s + 1, 0, none⟩), .pointer (some ⟨s + 1 + 1, 0, none⟩), .int .i64 d.txs.length, .pointer (some ⟨cb, 0, none⟩), undef, undef, undef, .pointer (some ⟨s, 65, none⟩), .slice v.txs.a d.txs.length v.txs.cap, .int .i64 d.txs.length, .bool false, .int .i64 d.txs.length, .bool false, .bool (decide ((30 : Int) < d.txs.length)), .int .i64 d.txs.length, .bool (decide ((30 : Int) < d.txs.length)), .pointer (some ⟨s, 0, none⟩), .agg (keyC v.prev).toArray, .string (sB v.prev.val), .pointer (some ⟨s, 32, none⟩), .agg (keyC v.root).toArray, .string (sB v.root.val), .pointer (some ⟨s, 64, none⟩), .int .u32 m, .int .u64 m, .string (sB (putL m 4)), .pointer (some ⟨s, 65, none⟩), .slice v.txs.a d.txs.length v.txs.cap, .int .i64 d.txs.length, .int .u64 d.txs.length, .string (sB (compactL d.txs.length)), .slice (some ⟨cr, 0, none⟩) 4 4, undef, undef, undef, undef, undef, undef, undef, undef, undef, undef, undef, undef, undef, undef, undef, undef, undef], defers := [] }

set_option maxHeartbeats 2000000 in
theorem enc_in (n : Nat) (hn : 3 ≤ n) (v : BlkV) (qs : List (TxV × TxD)) (d : BlkD) (w : World) (h : BlkL w v qs d) (hk : okB d) :
    CallsIn Fence.wide n Try.prog 27 #[.agg (blkC v).toArray] w fun e W' => e = .returned (valE (blkV d)) ∧ Below w.heap.size w W' := by
  have h1 : 1 ≤ n := by omega
  obtain ⟨s, hs⟩ : ∃ s, w.heap.size = s := ⟨_, rfl⟩
  have hvl := h.vlen
  have hd40 := hk.1
  replace h := Box.mk h
  replace hk := Box.mk hk
  refine callsIn_of_wp_marks Try.func27 rfl trivial ?_ rfl
  simp only [Try.ntmps27, List.size_toArray, List.length_cons, List.length_nil, Nat.reduceAdd, Nat.reduceSub, Array.replicate_succ, Array.replicate_zero, List.push_toArray, List.append_toArray, List.nil_append, List.cons_append]
  have q0 : ((((w.alloc (.cells (blkC v).toArray 50)).alloc (.cells #[.string ⟨#[]⟩] 9)).alloc (.cells #[.int .i64 0] 52)).heap[s]?) = some (.cells (blkC v).toArray 50 (0, 0)) := by
    have := heap_alloc_new w (.cells (blkC v).toArray 50)
    rw [hs] at this
    exact keepBlock ((Below.refl _ _).alloc (Nat.le_refl _) _) (keepBlock ((Below.refl _ _).alloc (Nat.le_refl _) _) this)
  obtain ⟨k0, k1, k2, k3, k4, k5⟩ := blk_all q0
  clear k1 k2 k3 k4
  by_cases hz : v.txs.len = 0
  · have hz' : ((v.txs.len : Int) == 0) = true := by rw [hz]; rfl
    have hV := Box.mk (blkV_zero (d := d) (by omega))
    gi_wp2
    refine ⟨valE ([], 110), ?_, by rw [hV.out], (((((Below.refl _ w).alloc (Nat.le_refl _) _).alloc (by simp) _).alloc (by simp; omega) _))⟩
    simp [results, Try.f27, go_sem, valE, hs]; rfl
  · have hz' : ((v.txs.len : Int) == 0) = false := by simp; omega
    by_cases hm : 30 < v.txs.len
    · have hm' : (30 : Int) < (v.txs.len : Int) := by omega
      have hV := Box.mk (blkV_many (d := d) (by omega) (by omega))
      gi_wp2
      refine ⟨valE ([], 51), ?_, by rw [hV.out], (((((Below.refl _ w).alloc (Nat.le_refl _) _).alloc (by simp) _).alloc (by simp; omega) _))⟩
      simp [results, Try.f27, go_sem, valE, hs]; rfl
    · have hm' : ¬ (30 : Int) < (v.txs.len : Int) := by omega
      have hn0 := h.out.nonce
      obtain ⟨m, hmn⟩ : ∃ m : Nat, v.nonce = (m : Int) := ⟨v.nonce.toNat, by omega⟩
      have hml : m ≤ 4294967295 := by omega
      have hmd : d.nonce.toNat = m := by omega
      clear hn0
      gi_wp2_with fail
      have q1 : Boxed (((w.alloc (.cells (blkC v).toArray 50)).alloc (.cells #[.string ⟨#[]⟩] 9)).alloc (.cells #[.int .i64 0] 52)) (s + 1) 9 (.string ⟨#[]⟩) := by
        have := (Boxed.new (w.alloc (.cells (blkC v).toArray 50)) 9 (.string ⟨#[]⟩)).alloc (.cells #[.int .i64 0] 52)
        rwa [World.size_alloc, hs] at this
      have q2 : Boxed (((w.alloc (.cells (blkC v).toArray 50)).alloc (.cells #[.string ⟨#[]⟩] 9)).alloc (.cells #[.int .i64 0] 52)) (s + 1 + 1) 52 (.int .i64 0) := by
        have := (Boxed.new ((w.alloc (.cells (blkC v).toArray 50)).alloc (.cells #[.string ⟨#[]⟩] 9)) 52 (.int .i64 0))
        rwa [World.size_alloc, World.size_alloc, hs] at this
      have hB8 : Below w.heap.size w (((w.alloc (.cells (blkC v).toArray 50)).alloc (.cells #[.string ⟨#[]⟩] 9)).alloc (.cells #[.int .i64 0] 52)) := (((((Below.refl _ w).alloc (Nat.le_refl _) _).alloc (by simp) _).alloc (by simp; omega) _))
      have hs8 : (((w.alloc (.cells (blkC v).toArray 50)).alloc (.cells #[.string ⟨#[]⟩] 9)).alloc (.cells #[.int .i64 0] 52)).heap.size = s + 3 := by simp [hs]
      clear k0 k5
      generalize ((w.alloc (.cells (blkC v).toArray 50)).alloc (.cells #[.string ⟨#[]⟩] 9)).alloc (.cells #[.int .i64 0] 52) = w8 at *
      have hall : ∀ w', SinceP w8 w' → rowOf w' s 0 32 = some (keyC v.prev) ∧ rowOf w' s 32 32 = some (keyC v.root) ∧ w'.cell? ⟨s, 64, none⟩ = some (.int .u32 v.nonce) ∧ w'.cell? ⟨s, 65, none⟩ = some (.slice v.txs.a v.txs.len v.txs.cap) ∧ s < w'.heap.size := fun w' hw => by
        obtain ⟨k0, _, k2, k3, k4, k5⟩ := blk_all (keepBlock hw.out q0)
        exact ⟨k2, k3, k4, k5, k0⟩
      rw [hmn, hvl] at hall
      have hlen64 : IntKind.u64.wrap ((d.txs.length : Nat) : Int) = ((d.txs.length : Nat) : Int) := by rw [IntKind.wrap_u64]; omega
      have hm64 : IntKind.u64.wrap (m : Int) = (m : Int) := by rw [IntKind.wrap_u64]; omega
      replace hs := Box.mk hs
      replace q0 := Box.mk q0
      replace q1 := Box.mk q1
      replace q2 := Box.mk q2
      replace hB8 := Box.mk hB8
      replace hs8 := Box.mk hs8
      refine wpIn_wide.2 ?_
      refine Code.wp_mono (Q := MID s v d m w8) ?rest ?reg
      case reg =>
        refine hreg_begin (S := SinceP w8) (by kernel_rfl) (SinceP.refl _).drew (fun hHeld => ?_)
        simp only [List.length_cons, List.length_nil, Nat.zero_add, Nat.reduceAdd, Array.replicate]
        refine hreg_take (i := 0) rfl (by kernel_rfl) (by kernel_rfl) (by kernel_rfl) hreg_panic (by rfl) hHeld ?_
        apply Exists.intro
        refine ⟨fun w' hw' => ?_, ?_⟩
        · have hf := hall w' hw'
          go_simp
          try go_bits
          exact yieldsV_mk rfl
        simp only [Act.put, List.setIfInBounds_toArray, List.set_cons_zero, List.set_cons_succ]
        refine hreg_take (i := 1) rfl (by kernel_rfl) (by kernel_rfl) (by kernel_rfl) hreg_panic (by rfl) hHeld ?_
        apply Exists.intro
        refine ⟨fun w' hw' => ?_, ?_⟩
        · have hf := hall w' hw'
          go_simp
          try go_bits
          exact yieldsV_mk rfl
        simp only [Act.put, List.setIfInBounds_toArray, List.set_cons_zero, List.set_cons_succ]
        refine hreg_take (i := 3) rfl (by kernel_rfl) (by kernel_rfl) (by kernel_rfl) hreg_panic (by rfl) hHeld ?_
        apply Exists.intro
        refine ⟨fun w' hw' => ?_, ?_⟩
        · have hf := hall w' hw'
          go_simp
          try go_bits
          exact yieldsV_mk rfl
        simp only [Act.put, List.setIfInBounds_toArray, List.set_cons_zero, List.set_cons_succ]
        refine hreg_take (i := 4) rfl (by kernel_rfl) (by kernel_rfl) (by kernel_rfl) hreg_panic (by rfl) hHeld ?_
        apply Exists.intro
        refine ⟨fun w' hw' => ?_, ?_⟩
        · have hf := hall w' hw'
          go_simp
          try go_bits
          exact yieldsV_mk rfl
        simp only [Act.put, List.setIfInBounds_toArray, List.set_cons_zero, List.set_cons_succ]
        refine hreg_take (i := 6) rfl (by kernel_rfl) (by kernel_rfl) (by kernel_rfl) hreg_panic (by rfl) hHeld ?_
        apply Exists.intro
        refine ⟨fun w' hw' => ?_, ?_⟩
        · have hf := hall w' hw'
          go_simp
          try go_bits
          exact yieldsV_mk rfl
        simp only [Act.put, List.setIfInBounds_toArray, List.set_cons_zero, List.set_cons_succ]
        refine hreg_take (i := 7) rfl (by kernel_rfl) (by kernel_rfl) (by kernel_rfl) hreg_panic (by rfl) hHeld ?_
        apply Exists.intro
        refine ⟨fun w' hw' => ?_, ?_⟩
        · have hf := hall w' hw'
          go_simp
          try go_bits
          exact yieldsV_mk rfl
        simp only [Act.put, List.setIfInBounds_toArray, List.set_cons_zero, List.set_cons_succ]
        refine hreg_take (i := 8) rfl (by kernel_rfl) (by kernel_rfl) (by kernel_rfl) hreg_panic (by rfl) hHeld ?_
        apply Exists.intro
        refine ⟨fun w' hw' => ?_, ?_⟩
        · have hf := hall w' hw'
          go_simp
          try go_bits
          exact yieldsV_mk rfl
        simp only [Act.put, List.setIfInBounds_toArray, List.set_cons_zero, List.set_cons_succ]
        refine hreg_take (i := 10) rfl (by kernel_rfl) (by kernel_rfl) (by kernel_rfl) hreg_panic (by rfl) hHeld ?_
        apply Exists.intro
        refine ⟨fun w' hw' => ?_, ?_⟩
        · have hf := hall w' hw'
          go_simp
          try go_bits
          exact yieldsV_mk rfl
        simp only [Act.put, List.setIfInBounds_toArray, List.set_cons_zero, List.set_cons_succ]
        refine hreg_take (i := 11) rfl (by kernel_rfl) (by kernel_rfl) (by kernel_rfl) hreg_panic (by rfl) hHeld ?_
        apply Exists.intro
        refine ⟨fun w' hw' => ?_, ?_⟩
        · have hf := hall w' hw'
          go_simp
          try go_bits
          exact yieldsV_mk rfl
        simp only [Act.put, List.setIfInBounds_toArray, List.set_cons_zero, List.set_cons_succ]
        refine hreg_take (i := 12) rfl (by kernel_rfl) (by kernel_rfl) (by kernel_rfl) hreg_panic (by rfl) hHeld ?_
        apply Exists.intro
        refine ⟨fun w' hw' => ?_, ?_⟩
        · have hf := hall w' hw'
          go_simp
          try go_bits
          exact yieldsV_mk rfl
        simp only [Act.put, List.setIfInBounds_toArray, List.set_cons_zero, List.set_cons_succ]
        refine hreg_take (i := 13) rfl (by kernel_rfl) (by kernel_rfl) (by kernel_rfl) hreg_panic (by rfl) hHeld ?_
        apply Exists.intro
        refine ⟨fun w' hw' => ?_, ?_⟩
        · have hf := hall w' hw'
          go_simp
          try go_bits
          exact yieldsV_mk rfl
        simp only [Act.put, List.setIfInBounds_toArray, List.set_cons_zero, List.set_cons_succ]
        refine wpAnyH_ready (rs := [2, 16]) (by kernel_rfl) (by simp) ?_
        refine hreg_event (o := _) rfl (by rfl) (fun K hK => ?_) ?_
        · go_simp
          first
            | (go_at_call 45; refine (bytes_any v.prev _).mono ?_; rintro e wa0 ⟨rfl, hb⟩)
            | (go_at_call 45; refine (bytes_any v.prev _).mono ?_; rintro e wa0 ⟨rfl, hb⟩)
            | (go_at_call 45; refine (bytes_any v.prev _).mono ?_; rintro e wa0 ⟨rfl, hb⟩)
            | (go_at_call 45; refine (bytes_any v.prev _).mono ?_; rintro e wa0 ⟨rfl, hb⟩)
            | (go_at_call 45; refine (bytes_any v.prev _).mono ?_; rintro e wa0 ⟨rfl, hb⟩)
            | skip
          refine hK.out _ _ ?_ (fun hHeld' => ?_)
          · first
              | exact hHeld.next hb
              | exact hHeld
              | exact hHeld.alloc _
              | exact hHeld.setCell (by simp <;> omega) _
              | exact (hHeld.alloc _).alloc _
          replace hHeld := hHeld'
          clear hHeld' hK K
          simp only [Act.put, List.setIfInBounds_toArray, List.set_cons_zero, List.set_cons_succ]
          refine wpAnyH_ready (rs := [5, 16]) (by kernel_rfl) (by simp) ?_
          refine hreg_event (o := _) rfl (by rfl) (fun K hK => ?_) ?_
          · go_simp
            first
              | (go_at_call 45; refine (bytes_any v.root _).mono ?_; rintro e wb0 ⟨rfl, hb⟩)
              | (go_at_call 45; refine (bytes_any v.root _).mono ?_; rintro e wb0 ⟨rfl, hb⟩)
              | (go_at_call 45; refine (bytes_any v.root _).mono ?_; rintro e wb0 ⟨rfl, hb⟩)
              | (go_at_call 45; refine (bytes_any v.root _).mono ?_; rintro e wb0 ⟨rfl, hb⟩)
              | skip
            refine hK.out _ _ ?_ (fun hHeld' => ?_)
            · first
                | exact hHeld.next hb
                | exact hHeld
                | exact hHeld.alloc _
                | exact hHeld.setCell (by simp <;> omega) _
                | exact (hHeld.alloc _).alloc _
            replace hHeld := hHeld'
            clear hHeld' hK K
            simp only [Act.put, List.setIfInBounds_toArray, List.set_cons_zero, List.set_cons_succ]
            refine wpAnyH_ready (rs := [9, 16]) (by kernel_rfl) (by simp) ?_
            refine hreg_event (o := _) rfl (by rfl) (fun K hK => ?_) ?_
            · go_simp
              first
                | (go_at_call 46; refine (put_any m 4 _ (by omega)).mono ?_; rintro e wc0 ⟨rfl, hb⟩)
                | (go_at_call 46; refine (put_any m 4 _ (by omega)).mono ?_; rintro e wc0 ⟨rfl, hb⟩)
                | (go_at_call 46; refine (put_any m 4 _ (by omega)).mono ?_; rintro e wc0 ⟨rfl, hb⟩)
                | skip
              refine hK.out _ _ ?_ (fun hHeld' => ?_)
              · first
                  | exact hHeld.next hb
                  | exact hHeld
                  | exact hHeld.alloc _
                  | exact hHeld.setCell (by simp <;> omega) _
                  | exact (hHeld.alloc _).alloc _
              replace hHeld := hHeld'
              clear hHeld' hK K
              simp only [Act.put, List.setIfInBounds_toArray, List.set_cons_zero, List.set_cons_succ]
              refine wpAnyH_ready (rs := [14, 16]) (by kernel_rfl) (by simp) ?_
              refine hreg_event (o := _) rfl (by rfl) (fun K hK => ?_) ?_
              · go_simp
                first
                  | (go_at_call 47; refine (compact_any d.txs.length _ (by omega)).mono ?_; rintro e wd0 ⟨rfl, hb⟩)
                  | (go_at_call 47; refine (compact_any d.txs.length _ (by omega)).mono ?_; rintro e wd0 ⟨rfl, hb⟩)
                  | skip
                refine hK.out _ _ ?_ (fun hHeld' => ?_)
                · first
                    | exact hHeld.next hb
                    | exact hHeld
                    | exact hHeld.alloc _
                    | exact hHeld.setCell (by simp <;> omega) _
                    | exact (hHeld.alloc _).alloc _
                replace hHeld := hHeld'
                clear hHeld' hK K
                simp only [Act.put, List.setIfInBounds_toArray, List.set_cons_zero, List.set_cons_succ]
                refine wpAnyH_ready (rs := [15, 16]) (by kernel_rfl) (by simp) ?_
                refine hreg_event (o := _) rfl (by rfl) (fun K hK => ?_) ?_
                · go_simp
                  first
                    | (obtain ⟨we0, hwe0⟩ : ∃ wn, wn = wd0.alloc (.cells #[.string (sB v.prev.val), .string (sB v.root.val), .string (sB (putL m 4)), .string (sB (compactL d.txs.length))] 9) := ⟨_, rfl⟩; have row : we0.heap[wd0.heap.size]? = some (.cells #[.string (sB v.prev.val), .string (sB v.root.val), .string (sB (putL m 4)), .string (sB (compactL d.txs.length))] 9 (0, 0)) := by { rw [hwe0]; exact heap_alloc_new _ _ }; have hb : Below wd0.heap.size wd0 we0 := by { rw [hwe0]; exact (Below.refl _ _).alloc (Nat.le_refl _) _ }; have hcr : w8.heap.size ≤ wd0.heap.size := hHeld.out.size; rw [← hwe0]; clear hwe0)
                    | skip
                  refine hK.out _ _ ?_ (fun hHeld' => ?_)
                  · first
                      | exact hHeld.next hb
                      | exact hHeld
                      | exact hHeld.alloc _
                      | exact hHeld.setCell (by simp <;> omega) _
                      | exact (hHeld.alloc _).alloc _
                  replace hHeld := hHeld'
                  clear hHeld' hK K
                  simp only [Act.put, List.setIfInBounds_toArray, List.set_cons_zero, List.set_cons_succ]
                  refine wpAnyH_ready (rs := [16]) (by kernel_rfl) (by simp) ?_
                  refine hreg_event (o := _) rfl (by rfl) (fun K hK => ?_) ?_
                  · go_simp
                    first
                      | (obtain ⟨wf0, hwf0⟩ : ∃ wn, wn = we0.alloc (.cells #[.slice none 0 0] 79) := ⟨_, rfl⟩; have bx : wf0.heap[we0.heap.size]? = some (.cells #[.slice none 0 0] 79 (0, 0)) := by { rw [hwf0]; exact heap_alloc_new _ _ }; have hb : Below we0.heap.size we0 wf0 := by { rw [hwf0]; exact (Below.refl _ _).alloc (Nat.le_refl _) _ }; have hne : we0.heap.size ≠ wd0.heap.size := Nat.ne_of_gt (Array.getElem?_eq_some_iff.1 row).1; replace row := keepBlock hb row; have hcb : w8.heap.size ≤ we0.heap.size := hHeld.out.size; rw [← hwf0]; clear hwf0)
                      | skip
                    refine hK.out _ _ ?_ (fun hHeld' => ?_)
                    · first
                        | exact hHeld.next hb
                        | exact hHeld
                        | exact hHeld.alloc _
                        | exact hHeld.setCell (by simp <;> omega) _
                        | exact (hHeld.alloc _).alloc _
                    replace hHeld := hHeld'
                    clear hHeld' hK K
                    simp only [Act.put, List.setIfInBounds_toArray, List.set_cons_zero, List.set_cons_succ]
                    refine wpAnyH_ready (rs := [17]) (by kernel_rfl) (by simp) ?_
                    refine hreg_event (o := _) rfl (by rfl) (fun K hK => ?_) ?_
                    · go_simp
                      first
                        | (have e0 := Boxed.cell bx; have f0 := Boxed.frozen bx; go_simp)
                        | skip
                      refine hK.out _ _ ?_ (fun hHeld' => ?_)
                      · first
                          | exact hHeld.setCell hcb _
                          | exact hHeld.next hb
                          | exact hHeld
                          | exact hHeld.alloc _
                          | exact hHeld.setCell (by simp <;> omega) _
                          | exact (hHeld.alloc _).alloc _
                      replace hHeld := hHeld'
                      clear hHeld' hK K
                      simp only [Act.put, List.setIfInBounds_toArray, List.set_cons_zero, List.set_cons_succ]
                      refine wpAnyH_done (by kernel_rfl) ?_ _
                      refine NoPanic.normal ?_
                      exact ⟨rfl, _, _, by have := hs8.out; omega, by have := hs8.out; omega, hne, Boxed.set _ bx, (Below.heap_setCell _ _ _ _ hne.symm).trans row, hHeld.out, rfl⟩
                    exact AllReadyH.nil
                  exact AllReadyH.nil
                refine hreg_event (o := _) rfl (by rfl) (fun K hK => ?_) ?_
                · go_simp
                  first
                    | (obtain ⟨we0, hwe0⟩ : ∃ wn, wn = wd0.alloc (.cells #[.slice none 0 0] 79) := ⟨_, rfl⟩; have bx : we0.heap[wd0.heap.size]? = some (.cells #[.slice none 0 0] 79 (0, 0)) := by { rw [hwe0]; exact heap_alloc_new _ _ }; have hb : Below wd0.heap.size wd0 we0 := by { rw [hwe0]; exact (Below.refl _ _).alloc (Nat.le_refl _) _ }; have hcb : w8.heap.size ≤ wd0.heap.size := hHeld.out.size; rw [← hwe0]; clear hwe0)
                    | skip
                  refine hK.out _ _ ?_ (fun hHeld' => ?_)
                  · first
                      | exact hHeld.next hb
                      | exact hHeld
                      | exact hHeld.alloc _
                      | exact hHeld.setCell (by simp <;> omega) _
                      | exact (hHeld.alloc _).alloc _
                  replace hHeld := hHeld'
                  clear hHeld' hK K
                  simp only [Act.put, List.setIfInBounds_toArray, List.set_cons_zero, List.set_cons_succ]
                  refine wpAnyH_ready (rs := [15]) (by kernel_rfl) (by simp) ?_
                  refine hreg_event (o := _) rfl (by rfl) (fun K hK => ?_) ?_
                  · go_simp
                    first
                      | (obtain ⟨wf0, hwf0⟩ : ∃ wn, wn = we0.alloc (.cells #[.string (sB v.prev.val), .string (sB v.root.val), .string (sB (putL m 4)), .string (sB (compactL d.txs.length))] 9) := ⟨_, rfl⟩; have row : wf0.heap[we0.heap.size]? = some (.cells #[.string (sB v.prev.val), .string (sB v.root.val), .string (sB (putL m 4)), .string (sB (compactL d.txs.length))] 9 (0, 0)) := by { rw [hwf0]; exact heap_alloc_new _ _ }; have hb : Below we0.heap.size we0 wf0 := by { rw [hwf0]; exact (Below.refl _ _).alloc (Nat.le_refl _) _ }; have hne : wd0.heap.size ≠ we0.heap.size := Nat.ne_of_lt (Array.getElem?_eq_some_iff.1 bx).1; replace bx := keepBlock hb bx; have hcr : w8.heap.size ≤ we0.heap.size := hHeld.out.size; rw [← hwf0]; clear hwf0)
                      | skip
                    refine hK.out _ _ ?_ (fun hHeld' => ?_)
                    · first
                        | exact hHeld.next hb
                        | exact hHeld
                        | exact hHeld.alloc _
                        | exact hHeld.setCell (by simp <;> omega) _
                        | exact (hHeld.alloc _).alloc _
                    replace hHeld := hHeld'
                    clear hHeld' hK K
                    simp only [Act.put, List.setIfInBounds_toArray, List.set_cons_zero, List.set_cons_succ]
                    refine wpAnyH_ready (rs := [17]) (by kernel_rfl) (by simp) ?_
                    refine hreg_event (o := _) rfl (by rfl) (fun K hK => ?_) ?_
                    · go_simp
                      first
                        | (have e0 := Boxed.cell bx; have f0 := Boxed.frozen bx; go_simp)
                        | skip
                      refine hK.out _ _ ?_ (fun hHeld' => ?_)
                      · first
                          | exact hHeld.setCell hcb _
                          | exact hHeld.next hb
                          | exact hHeld
                          | exact hHeld.alloc _
                          | exact hHeld.setCell (by simp <;> omega) _
                          | exact (hHeld.alloc _).alloc _
                      replace hHeld := hHeld'
                      clear hHeld' hK K
                      simp only [Act.put, List.setIfInBounds_toArray, List.set_cons_zero, List.set_cons_succ]
                      refine wpAnyH_done (by kernel_rfl) ?_ _
                      refine NoPanic.normal ?_
                      exact ⟨rfl, _, _, by have := hs8.out; omega, by have := hs8.out; omega, hne, Boxed.set _ bx, (Below.heap_setCell _ _ _ _ hne.symm).trans row, hHeld.out, rfl⟩
                    exact AllReadyH.nil
                  exact AllReadyH.nil
                exact AllReadyH.nil
              refine hreg_event (o := _) rfl (by rfl) (fun K hK => ?_) ?_
              · go_simp
                first
                  | (obtain ⟨wd0, hwd0⟩ : ∃ wn, wn = wc0.alloc (.cells #[.slice none 0 0] 79) := ⟨_, rfl⟩; have bx : wd0.heap[wc0.heap.size]? = some (.cells #[.slice none 0 0] 79 (0, 0)) := by { rw [hwd0]; exact heap_alloc_new _ _ }; have hb : Below wc0.heap.size wc0 wd0 := by { rw [hwd0]; exact (Below.refl _ _).alloc (Nat.le_refl _) _ }; have hcb : w8.heap.size ≤ wc0.heap.size := hHeld.out.size; rw [← hwd0]; clear hwd0)
                  | skip
                refine hK.out _ _ ?_ (fun hHeld' => ?_)
                · first
                    | exact hHeld.next hb
                    | exact hHeld
                    | exact hHeld.alloc _
                    | exact hHeld.setCell (by simp <;> omega) _
                    | exact (hHeld.alloc _).alloc _
                replace hHeld := hHeld'
                clear hHeld' hK K
                simp only [Act.put, List.setIfInBounds_toArray, List.set_cons_zero, List.set_cons_succ]
                refine wpAnyH_ready (rs := [14]) (by kernel_rfl) (by simp) ?_
                refine hreg_event (o := _) rfl (by rfl) (fun K hK => ?_) ?_
                · go_simp
                  first
                    | (go_at_call 47; refine (compact_any d.txs.length _ (by omega)).mono ?_; rintro e we0 ⟨rfl, hb⟩; replace bx := keepBlock hb bx)
                    | skip
                  refine hK.out _ _ ?_ (fun hHeld' => ?_)
                  · first
                      | exact hHeld.next hb
                      | exact hHeld
                      | exact hHeld.alloc _
                      | exact hHeld.setCell (by simp <;> omega) _
                      | exact (hHeld.alloc _).alloc _
                  replace hHeld := hHeld'
                  clear hHeld' hK K
                  simp only [Act.put, List.setIfInBounds_toArray, List.set_cons_zero, List.set_cons_succ]
                  refine wpAnyH_ready (rs := [15]) (by kernel_rfl) (by simp) ?_
                  refine hreg_event (o := _) rfl (by rfl) (fun K hK => ?_) ?_
                  · go_simp
                    first
                      | (obtain ⟨wf0, hwf0⟩ : ∃ wn, wn = we0.alloc (.cells #[.string (sB v.prev.val), .string (sB v.root.val), .string (sB (putL m 4)), .string (sB (compactL d.txs.length))] 9) := ⟨_, rfl⟩; have row : wf0.heap[we0.heap.size]? = some (.cells #[.string (sB v.prev.val), .string (sB v.root.val), .string (sB (putL m 4)), .string (sB (compactL d.txs.length))] 9 (0, 0)) := by { rw [hwf0]; exact heap_alloc_new _ _ }; have hb : Below we0.heap.size we0 wf0 := by { rw [hwf0]; exact (Below.refl _ _).alloc (Nat.le_refl _) _ }; have hne : wc0.heap.size ≠ we0.heap.size := Nat.ne_of_lt (Array.getElem?_eq_some_iff.1 bx).1; replace bx := keepBlock hb bx; have hcr : w8.heap.size ≤ we0.heap.size := hHeld.out.size; rw [← hwf0]; clear hwf0)
                      | skip
                    refine hK.out _ _ ?_ (fun hHeld' => ?_)
                    · first
                        | exact hHeld.next hb
                        | exact hHeld
                        | exact hHeld.alloc _
                        | exact hHeld.setCell (by simp <;> omega) _
                        | exact (hHeld.alloc _).alloc _
                    replace hHeld := hHeld'
                    clear hHeld' hK K
                    simp only [Act.put, List.setIfInBounds_toArray, List.set_cons_zero, List.set_cons_succ]
                    refine wpAnyH_ready (rs := [17]) (by kernel_rfl) (by simp) ?_
                    refine hreg_event (o := _) rfl (by rfl) (fun K hK => ?_) ?_
                    · go_simp
                      first
                        | (have e0 := Boxed.cell bx; have f0 := Boxed.frozen bx; go_simp)
                        | skip
                      refine hK.out _ _ ?_ (fun hHeld' => ?_)
                      · first
                          | exact hHeld.setCell hcb _
                          | exact hHeld.next hb
                          | exact hHeld
                          | exact hHeld.alloc _
                          | exact hHeld.setCell (by simp <;> omega) _
                          | exact (hHeld.alloc _).alloc _
                      replace hHeld := hHeld'
                      clear hHeld' hK K
                      simp only [Act.put, List.setIfInBounds_toArray, List.set_cons_zero, List.set_cons_succ]
                      refine wpAnyH_done (by kernel_rfl) ?_ _
                      refine NoPanic.normal ?_
                      exact ⟨rfl, _, _, by have := hs8.out; omega, by have := hs8.out; omega, hne, Boxed.set _ bx, (Below.heap_setCell _ _ _ _ hne.symm).trans row, hHeld.out, rfl⟩
                    exact AllReadyH.nil
                  exact AllReadyH.nil
                exact AllReadyH.nil
              exact AllReadyH.nil
            refine hreg_event (o := _) rfl (by rfl) (fun K hK => ?_) ?_
            · go_simp
              first
                | (obtain ⟨wc0, hwc0⟩ : ∃ wn, wn = wb0.alloc (.cells #[.slice none 0 0] 79) := ⟨_, rfl⟩; have bx : wc0.heap[wb0.heap.size]? = some (.cells #[.slice none 0 0] 79 (0, 0)) := by { rw [hwc0]; exact heap_alloc_new _ _ }; have hb : Below wb0.heap.size wb0 wc0 := by { rw [hwc0]; exact (Below.refl _ _).alloc (Nat.le_refl _) _ }; have hcb : w8.heap.size ≤ wb0.heap.size := hHeld.out.size; rw [← hwc0]; clear hwc0)
                | skip
              refine hK.out _ _ ?_ (fun hHeld' => ?_)
              · first
                  | exact hHeld.next hb
                  | exact hHeld
                  | exact hHeld.alloc _
                  | exact hHeld.setCell (by simp <;> omega) _
                  | exact (hHeld.alloc _).alloc _
              replace hHeld := hHeld'
              clear hHeld' hK K
              simp only [Act.put, List.setIfInBounds_toArray, List.set_cons_zero, List.set_cons_succ]
              refine wpAnyH_ready (rs := [9]) (by kernel_rfl) (by simp) ?_
              refine hreg_event (o := _) rfl (by rfl) (fun K hK => ?_) ?_
              · go_simp
                first
                  | (go_at_call 46; refine (put_any m 4 _ (by omega)).mono ?_; rintro e wd0 ⟨rfl, hb⟩; replace bx := keepBlock hb bx)
                  | skip
                refine hK.out _ _ ?_ (fun hHeld' => ?_)
                · first
                    | exact hHeld.next hb
                    | exact hHeld
                    | exact hHeld.alloc _
                    | exact hHeld.setCell (by simp <;> omega) _
                    | exact (hHeld.alloc _).alloc _
                replace hHeld := hHeld'
                clear hHeld' hK K
                simp only [Act.put, List.setIfInBounds_toArray, List.set_cons_zero, List.set_cons_succ]
                refine wpAnyH_ready (rs := [14]) (by kernel_rfl) (by simp) ?_
                refine hreg_event (o := _) rfl (by rfl) (fun K hK => ?_) ?_
                · go_simp
                  first
                    | (go_at_call 47; refine (compact_any d.txs.length _ (by omega)).mono ?_; rintro e we0 ⟨rfl, hb⟩; replace bx := keepBlock hb bx)
                    | skip
                  refine hK.out _ _ ?_ (fun hHeld' => ?_)
                  · first
                      | exact hHeld.next hb
                      | exact hHeld
                      | exact hHeld.alloc _
                      | exact hHeld.setCell (by simp <;> omega) _
                      | exact (hHeld.alloc _).alloc _
                  replace hHeld := hHeld'
                  clear hHeld' hK K
                  simp only [Act.put, List.setIfInBounds_toArray, List.set_cons_zero, List.set_cons_succ]
                  refine wpAnyH_ready (rs := [15]) (by kernel_rfl) (by simp) ?_
                  refine hreg_event (o := _) rfl (by rfl) (fun K hK => ?_) ?_
                  · go_simp
                    first
                      | (obtain ⟨wf0, hwf0⟩ : ∃ wn, wn = we0.alloc (.cells #[.string (sB v.prev.val), .string (sB v.root.val), .string (sB (putL m 4)), .string (sB (compactL d.txs.length))] 9) := ⟨_, rfl⟩; have row : wf0.heap[we0.heap.size]? = some (.cells #[.string (sB v.prev.val), .string (sB v.root.val), .string (sB (putL m 4)), .string (sB (compactL d.txs.length))] 9 (0, 0)) := by { rw [hwf0]; exact heap_alloc_new _ _ }; have hb : Below we0.heap.size we0 wf0 := by { rw [hwf0]; exact (Below.refl _ _).alloc (Nat.le_refl _) _ }; have hne : wb0.heap.size ≠ we0.heap.size := Nat.ne_of_lt (Array.getElem?_eq_some_iff.1 bx).1; replace bx := keepBlock hb bx; have hcr : w8.heap.size ≤ we0.heap.size := hHeld.out.size; rw [← hwf0]; clear hwf0)
                      | skip
                    refine hK.out _ _ ?_ (fun hHeld' => ?_)
                    · first
                        | exact hHeld.next hb
                        | exact hHeld
                        | exact hHeld.alloc _
                        | exact hHeld.setCell (by simp <;> omega) _
                        | exact (hHeld.alloc _).alloc _
                    replace hHeld := hHeld'
                    clear hHeld' hK K
                    simp only [Act.put, List.setIfInBounds_toArray, List.set_cons_zero, List.set_cons_succ]
                    refine wpAnyH_ready (rs := [17]) (by kernel_rfl) (by simp) ?_
                    refine hreg_event (o := _) rfl (by rfl) (fun K hK => ?_) ?_
                    · go_simp
                      first
                        | (have e0 := Boxed.cell bx; have f0 := Boxed.frozen bx; go_simp)
                        | skip
                      refine hK.out _ _ ?_ (fun hHeld' => ?_)
                      · first
                          | exact hHeld.setCell hcb _
                          | exact hHeld.next hb
                          | exact hHeld
                          | exact hHeld.alloc _
                          | exact hHeld.setCell (by simp <;> omega) _
                          | exact (hHeld.alloc _).alloc _
                      replace hHeld := hHeld'
                      clear hHeld' hK K
                      simp only [Act.put, List.setIfInBounds_toArray, List.set_cons_zero, List.set_cons_succ]
                      refine wpAnyH_done (by kernel_rfl) ?_ _
                      refine NoPanic.normal ?_
                      exact ⟨rfl, _, _, by have := hs8.out; omega, by have := hs8.out; omega, hne, Boxed.set _ bx, (Below.heap_setCell _ _ _ _ hne.symm).trans row, hHeld.out, rfl⟩
                    exact AllReadyH.nil
                  exact AllReadyH.nil
                exact AllReadyH.nil
              exact AllReadyH.nil
            exact AllReadyH.nil
          refine hreg_event (o := _) rfl (by rfl) (fun K hK => ?_) ?_
          · go_simp
            first
              | (obtain ⟨wb0, hwb0⟩ : ∃ wn, wn = wa0.alloc (.cells #[.slice none 0 0] 79) := ⟨_, rfl⟩; have bx : wb0.heap[wa0.heap.size]? = some (.cells #[.slice none 0 0] 79 (0, 0)) := by { rw [hwb0]; exact heap_alloc_new _ _ }; have hb : Below wa0.heap.size wa0 wb0 := by { rw [hwb0]; exact (Below.refl _ _).alloc (Nat.le_refl _) _ }; have hcb : w8.heap.size ≤ wa0.heap.size := hHeld.out.size; rw [← hwb0]; clear hwb0)
              | skip
            refine hK.out _ _ ?_ (fun hHeld' => ?_)
            · first
                | exact hHeld.next hb
                | exact hHeld
                | exact hHeld.alloc _
                | exact hHeld.setCell (by simp <;> omega) _
                | exact (hHeld.alloc _).alloc _
            replace hHeld := hHeld'
            clear hHeld' hK K
            simp only [Act.put, List.setIfInBounds_toArray, List.set_cons_zero, List.set_cons_succ]
            refine wpAnyH_ready (rs := [5]) (by kernel_rfl) (by simp) ?_
            refine hreg_event (o := _) rfl (by rfl) (fun K hK => ?_) ?_
            · go_simp
              first
                | (go_at_call 45; refine (bytes_any v.root _).mono ?_; rintro e wc0 ⟨rfl, hb⟩; replace bx := keepBlock hb bx)
                | skip
              refine hK.out _ _ ?_ (fun hHeld' => ?_)
              · first
                  | exact hHeld.next hb
                  | exact hHeld
                  | exact hHeld.alloc _
                  | exact hHeld.setCell (by simp <;> omega) _
                  | exact (hHeld.alloc _).alloc _
              replace hHeld := hHeld'
              clear hHeld' hK K
              simp only [Act.put, List.setIfInBounds_toArray, List.set_cons_zero, List.set_cons_succ]
              refine wpAnyH_ready (rs := [9]) (by kernel_rfl) (by simp) ?_
              refine hreg_event (o := _) rfl (by rfl) (fun K hK => ?_) ?_
              · go_simp
                first
                  | (go_at_call 46; refine (put_any m 4 _ (by omega)).mono ?_; rintro e wd0 ⟨rfl, hb⟩; replace bx := keepBlock hb bx)
                  | skip
                refine hK.out _ _ ?_ (fun hHeld' => ?_)
                · first
                    | exact hHeld.next hb
                    | exact hHeld
                    | exact hHeld.alloc _
                    | exact hHeld.setCell (by simp <;> omega) _
                    | exact (hHeld.alloc _).alloc _
                replace hHeld := hHeld'
                clear hHeld' hK K
                simp only [Act.put, List.setIfInBounds_toArray, List.set_cons_zero, List.set_cons_succ]
                refine wpAnyH_ready (rs := [14]) (by kernel_rfl) (by simp) ?_
                refine hreg_event (o := _) rfl (by rfl) (fun K hK => ?_) ?_
                · go_simp
                  first
                    | (go_at_call 47; refine (compact_any d.txs.length _ (by omega)).mono ?_; rintro e we0 ⟨rfl, hb⟩; replace bx := keepBlock hb bx)
                    | skip
                  refine hK.out _ _ ?_ (fun hHeld' => ?_)
                  · first
                      | exact hHeld.next hb
                      | exact hHeld
                      | exact hHeld.alloc _
                      | exact hHeld.setCell (by simp <;> omega) _
                      | exact (hHeld.alloc _).alloc _
                  replace hHeld := hHeld'
                  clear hHeld' hK K
                  simp only [Act.put, List.setIfInBounds_toArray, List.set_cons_zero, List.set_cons_succ]
                  refine wpAnyH_ready (rs := [15]) (by kernel_rfl) (by simp) ?_
                  refine hreg_event (o := _) rfl (by rfl) (fun K hK => ?_) ?_
                  · go_simp
                    first
                      | (obtain ⟨wf0, hwf0⟩ : ∃ wn, wn = we0.alloc (.cells #[.string (sB v.prev.val), .string (sB v.root.val), .string (sB (putL m 4)), .string (sB (compactL d.txs.length))] 9) := ⟨_, rfl⟩; have row : wf0.heap[we0.heap.size]? = some (.cells #[.string (sB v.prev.val), .string (sB v.root.val), .string (sB (putL m 4)), .string (sB (compactL d.txs.length))] 9 (0, 0)) := by { rw [hwf0]; exact heap_alloc_new _ _ }; have hb : Below we0.heap.size we0 wf0 := by { rw [hwf0]; exact (Below.refl _ _).alloc (Nat.le_refl _) _ }; have hne : wa0.heap.size ≠ we0.heap.size := Nat.ne_of_lt (Array.getElem?_eq_some_iff.1 bx).1; replace bx := keepBlock hb bx; have hcr : w8.heap.size ≤ we0.heap.size := hHeld.out.size; rw [← hwf0]; clear hwf0)
                      | skip
                    refine hK.out _ _ ?_ (fun hHeld' => ?_)
                    · first
                        | exact hHeld.next hb
                        | exact hHeld
                        | exact hHeld.alloc _
                        | exact hHeld.setCell (by simp <;> omega) _
                        | exact (hHeld.alloc _).alloc _
                    replace hHeld := hHeld'
                    clear hHeld' hK K
                    simp only [Act.put, List.setIfInBounds_toArray, List.set_cons_zero, List.set_cons_succ]
                    refine wpAnyH_ready (rs := [17]) (by kernel_rfl) (by simp) ?_
                    refine hreg_event (o := _) rfl (by rfl) (fun K hK => ?_) ?_
                    · go_simp
                      first
                        | (have e0 := Boxed.cell bx; have f0 := Boxed.frozen bx; go_simp)
                        | skip
                      refine hK.out _ _ ?_ (fun hHeld' => ?_)
                      · first
                          | exact hHeld.setCell hcb _
                          | exact hHeld.next hb
                          | exact hHeld
                          | exact hHeld.alloc _
                          | exact hHeld.setCell (by simp <;> omega) _
                          | exact (hHeld.alloc _).alloc _
                      replace hHeld := hHeld'
                      clear hHeld' hK K
                      simp only [Act.put, List.setIfInBounds_toArray, List.set_cons_zero, List.set_cons_succ]
                      refine wpAnyH_done (by kernel_rfl) ?_ _
                      refine NoPanic.normal ?_
                      exact ⟨rfl, _, _, by have := hs8.out; omega, by have := hs8.out; omega, hne, Boxed.set _ bx, (Below.heap_setCell _ _ _ _ hne.symm).trans row, hHeld.out, rfl⟩
                    exact AllReadyH.nil
                  exact AllReadyH.nil
                exact AllReadyH.nil
              exact AllReadyH.nil
            exact AllReadyH.nil
          exact AllReadyH.nil
        refine hreg_event (o := _) rfl (by rfl) (fun K hK => ?_) ?_
        · go_simp
          first
            | (obtain ⟨wa0, hwa0⟩ : ∃ wn, wn = (w8.alloc (.cells #[.slice none 0 0] 79)).drew := ⟨_, rfl⟩; have bx : wa0.heap[w8.heap.size]? = some (.cells #[.slice none 0 0] 79 (0, 0)) := by { rw [hwa0]; exact heap_alloc_new w8 _ }; have hb : Below w8.heap.size w8 wa0 := by { rw [hwa0]; exact ((Below.refl _ _).alloc (Nat.le_refl _) _).drew }; have hcb : w8.heap.size ≤ w8.heap.size := Nat.le_refl _; rw [← hwa0]; clear hwa0)
            | skip
          refine hK.out _ _ ?_ (fun hHeld' => ?_)
          · first
              | exact ⟨hb⟩
              | exact hHeld.next hb
              | exact hHeld
              | exact hHeld.alloc _
              | exact hHeld.setCell (by simp <;> omega) _
              | exact (hHeld.alloc _).alloc _
          replace hHeld := hHeld'
          clear hHeld' hK K
          simp only [Act.put, List.setIfInBounds_toArray, List.set_cons_zero, List.set_cons_succ]
          refine wpAnyH_ready (rs := [2]) (by kernel_rfl) (by simp) ?_
          refine hreg_event (o := _) rfl (by rfl) (fun K hK => ?_) ?_
          · go_simp
            first
              | (go_at_call 45; refine (bytes_any v.prev _).mono ?_; rintro e wb0 ⟨rfl, hb⟩; replace bx := keepBlock hb bx)
              | skip
            refine hK.out _ _ ?_ (fun hHeld' => ?_)
            · first
                | exact hHeld.next hb
                | exact hHeld
                | exact hHeld.alloc _
                | exact hHeld.setCell (by simp <;> omega) _
                | exact (hHeld.alloc _).alloc _
            replace hHeld := hHeld'
            clear hHeld' hK K
            simp only [Act.put, List.setIfInBounds_toArray, List.set_cons_zero, List.set_cons_succ]
            refine wpAnyH_ready (rs := [5]) (by kernel_rfl) (by simp) ?_
            refine hreg_event (o := _) rfl (by rfl) (fun K hK => ?_) ?_
            · go_simp
              first
                | (go_at_call 45; refine (bytes_any v.root _).mono ?_; rintro e wc0 ⟨rfl, hb⟩; replace bx := keepBlock hb bx)
                | skip
              refine hK.out _ _ ?_ (fun hHeld' => ?_)
              · first
                  | exact hHeld.next hb
                  | exact hHeld
                  | exact hHeld.alloc _
                  | exact hHeld.setCell (by simp <;> omega) _
                  | exact (hHeld.alloc _).alloc _
              replace hHeld := hHeld'
              clear hHeld' hK K
              simp only [Act.put, List.setIfInBounds_toArray, List.set_cons_zero, List.set_cons_succ]
              refine wpAnyH_ready (rs := [9]) (by kernel_rfl) (by simp) ?_
              refine hreg_event (o := _) rfl (by rfl) (fun K hK => ?_) ?_
              · go_simp
                first
                  | (go_at_call 46; refine (put_any m 4 _ (by omega)).mono ?_; rintro e wd0 ⟨rfl, hb⟩; replace bx := keepBlock hb bx)
                  | skip
                refine hK.out _ _ ?_ (fun hHeld' => ?_)
                · first
                    | exact hHeld.next hb
                    | exact hHeld
                    | exact hHeld.alloc _
                    | exact hHeld.setCell (by simp <;> omega) _
                    | exact (hHeld.alloc _).alloc _
                replace hHeld := hHeld'
                clear hHeld' hK K
                simp only [Act.put, List.setIfInBounds_toArray, List.set_cons_zero, List.set_cons_succ]
                refine wpAnyH_ready (rs := [14]) (by kernel_rfl) (by simp) ?_
                refine hreg_event (o := _) rfl (by rfl) (fun K hK => ?_) ?_
                · go_simp
                  first
                    | (go_at_call 47; refine (compact_any d.txs.length _ (by omega)).mono ?_; rintro e we0 ⟨rfl, hb⟩; replace bx := keepBlock hb bx)
                    | skip
                  refine hK.out _ _ ?_ (fun hHeld' => ?_)
                  · first
                      | exact hHeld.next hb
                      | exact hHeld
                      | exact hHeld.alloc _
                      | exact hHeld.setCell (by simp <;> omega) _
                      | exact (hHeld.alloc _).alloc _
                  replace hHeld := hHeld'
                  clear hHeld' hK K
                  simp only [Act.put, List.setIfInBounds_toArray, List.set_cons_zero, List.set_cons_succ]
                  refine wpAnyH_ready (rs := [15]) (by kernel_rfl) (by simp) ?_
                  refine hreg_event (o := _) rfl (by rfl) (fun K hK => ?_) ?_
                  · go_simp
                    first
                      | (obtain ⟨wf0, hwf0⟩ : ∃ wn, wn = we0.alloc (.cells #[.string (sB v.prev.val), .string (sB v.root.val), .string (sB (putL m 4)), .string (sB (compactL d.txs.length))] 9) := ⟨_, rfl⟩; have row : wf0.heap[we0.heap.size]? = some (.cells #[.string (sB v.prev.val), .string (sB v.root.val), .string (sB (putL m 4)), .string (sB (compactL d.txs.length))] 9 (0, 0)) := by { rw [hwf0]; exact heap_alloc_new _ _ }; have hb : Below we0.heap.size we0 wf0 := by { rw [hwf0]; exact (Below.refl _ _).alloc (Nat.le_refl _) _ }; have hne : w8.heap.size ≠ we0.heap.size := Nat.ne_of_lt (Array.getElem?_eq_some_iff.1 bx).1; replace bx := keepBlock hb bx; have hcr : w8.heap.size ≤ we0.heap.size := hHeld.out.size; rw [← hwf0]; clear hwf0)
                      | skip
                    refine hK.out _ _ ?_ (fun hHeld' => ?_)
                    · first
                        | exact hHeld.next hb
                        | exact hHeld
                        | exact hHeld.alloc _
                        | exact hHeld.setCell (by simp <;> omega) _
                        | exact (hHeld.alloc _).alloc _
                    replace hHeld := hHeld'
                    clear hHeld' hK K
                    simp only [Act.put, List.setIfInBounds_toArray, List.set_cons_zero, List.set_cons_succ]
                    refine wpAnyH_ready (rs := [17]) (by kernel_rfl) (by simp) ?_
                    refine hreg_event (o := _) rfl (by rfl) (fun K hK => ?_) ?_
                    · go_simp
                      first
                        | (have e0 := Boxed.cell bx; have f0 := Boxed.frozen bx; go_simp)
                        | skip
                      refine hK.out _ _ ?_ (fun hHeld' => ?_)
                      · first
                          | exact hHeld.setCell hcb _
                          | exact hHeld.next hb
                          | exact hHeld
                          | exact hHeld.alloc _
                          | exact hHeld.setCell (by simp <;> omega) _
                          | exact (hHeld.alloc _).alloc _
                      replace hHeld := hHeld'
                      clear hHeld' hK K
                      simp only [Act.put, List.setIfInBounds_toArray, List.set_cons_zero, List.set_cons_succ]
                      refine wpAnyH_done (by kernel_rfl) ?_ _
                      refine NoPanic.normal ?_
                      exact ⟨rfl, _, _, by have := hs8.out; omega, by have := hs8.out; omega, hne, Boxed.set _ bx, (Below.heap_setCell _ _ _ _ hne.symm).trans row, hHeld.out, rfl⟩
                    exact AllReadyH.nil
                  exact AllReadyH.nil
                exact AllReadyH.nil
              exact AllReadyH.nil
            exact AllReadyH.nil
          exact AllReadyH.nil
        exact AllReadyH.nil
      case rest =>
        rintro e a' W ⟨rfl, cb, cr, hcb, hcr, hne, hbx, hrow, hB, rfl⟩
        have r0 := keepBlock hB q0.out
        have r1 : Boxed W (s + 1) 9 (.string ⟨#[]⟩) := keepBlock hB q1.out
        have r2 : Boxed W (s + 1 + 1) 52 (.int .i64 0) := keepBlock hB q2.out
        have hBW := hB8.out.trans (hB.mono hB8.out.size)
        obtain ⟨k0, k1, _⟩ := blk_all r0
        have hbs := hbx.lt
        have hrs := (Array.getElem?_eq_some_iff.1 hrow).1
        replace r0 := Box.mk r0
        replace hbx := Box.mk hbx
        replace hrow := Box.mk hrow
        replace r1 := Box.mk r1
        replace r2 := Box.mk r2
        replace hBW := Box.mk hBW
        replace hB := Box.mk hB
        clear hall hlen64 hm64
        gi_wp2_with (refine ⟨trivial, ?_⟩; gi_at_call 48; refine (each_in (n - 1) _ _).mono ?_; rintro e w' ⟨rfl, rfl⟩)
        have hkB : Below W.heap.size W (W.alloc (.cells (blkC v).toArray 50)) := (Below.refl _ _).alloc (Nat.le_refl _) _
        have hBW4 := Box.mk (hBW.out.trans (hkB.mono hBW.out.size))
        have q4 := Box.mk (heap_alloc_new W (.cells (blkC v).toArray 50))
        have x1 := Box.mk (keepBlock hkB r1.out)
        have x2 := Box.mk (keepBlock hkB r2.out)
        have xb := Box.mk (keepBlock hkB hbx.out)
        have xr := Box.mk (keepBlock hkB hrow.out)
        have hz4 : (W.alloc (.cells (blkC v).toArray 50)).heap.size = W.heap.size + 1 := by simp
        obtain ⟨W4, hW4⟩ : ∃ W4, W4 = W.alloc (.cells (blkC v).toArray 50) := ⟨_, rfl⟩
        rw [← hW4] at hBW4 q4 x1 x2 xb xr hz4 ⊢
        clear hW4 hkB
        have hsW : s + 3 ≤ W.heap.size := by have := hB.out.size; have := hs8.out; omega
        have hH : OwnV W4 (s + 1 + 1 + 1) 9 (.slice (some ⟨cr, 0, none⟩) 4 4) (strs (headL v m d.txs.length)) :=
          ⟨rfl, .inr ⟨cr, 4, _, rfl, by omega, xr.out, Nat.le_refl _, by unfold maxLen; omega, rfl, rfl⟩⟩
        refine wpIn_rangeFunc_ownH rfl h1 (gf := 81) (lb := #[.pointer (some ⟨W.heap.size, 0, none⟩)]) rfl trivial (enters_of Try.func81 (by kernel_rfl) rfl)
          (each_stops (n - 1) (by omega) W.heap.size w W4 v qs h.out.txs (h.out.ok hk.out) hBW4.out q4.out) belowK_t (belowK_b (by have := hBW4.out.size; omega)) (Below.refl _ _) (fun _ => rfl)
          (fun pre W => BEI s cb (headL v m d.txs.length) pre W ∧ Below w.heap.size w W)
          (fun c pre W => BEX s c pre W ∧ Below w.heap.size w W)
          (OwnFrom.and (BEI.kept _) (ownFrom_below (Nat.le_refl _) (by have := hBW4.out.size; omega)))
          (fun c => OwnFrom.and (BEX.kept _) (ownFrom_below (Nat.le_refl _) (by have := hBW4.out.size; omega)))
          ⟨⟨⟨[], _, _, _, xb.out, by rw [List.append_nil]; exact hH, rfl, rfl, by simp⟩, x1.out, x2.out, by omega⟩, hBW4.out⟩
          (fun x a' W5 => NA s (fun p => #[.agg (blkC v).toArray, .pointer (some ⟨s, 0, none⟩), .pointer (some ⟨s + 1, 0, none⟩), .pointer (some ⟨s + 1 + 1, 0, none⟩), .int .i64 d.txs.length, .pointer (some ⟨cb, 0, none⟩), p, undef, undef, .pointer (some ⟨s, 65, none⟩), .slice v.txs.a d.txs.length v.txs.cap, .int .i64 d.txs.length, .bool false, .int .i64 d.txs.length, .bool false, .bool (decide ((30 : Int) < d.txs.length)), .int .i64 d.txs.length, .bool (decide ((30 : Int) < d.txs.length)), .pointer (some ⟨s, 0, none⟩), .agg (keyC v.prev).toArray, .string (sB v.prev.val), .pointer (some ⟨s, 32, none⟩), .agg (keyC v.root).toArray, .string (sB v.root.val), .pointer (some ⟨s, 64, none⟩), .int .u32 m, .int .u64 m, .string (sB (putL m 4)), .pointer (some ⟨s, 65, none⟩), .slice v.txs.a d.txs.length v.txs.cap, .int .i64 d.txs.length, .int .u64 d.txs.length, .string (sB (compactL d.txs.length)), .slice (some ⟨cr, 0, none⟩) 4 4, .agg (blkC v).toArray, .func (.func 81) #[] #[.pointer (some ⟨W.heap.size, 0, none⟩)], .agg (txC x.1.1).toArray, undef, undef, undef, undef, undef, undef, undef, undef, undef, undef, undef, undef, undef, undef]) x a' W5)
          (fun x a' => NA.kept _) ?assign ?body ?done ?stop
        case assign =>
          intro l pre x W5 K hI hK
          have hsz := hI.1.big
          have hB5 := hI.2
          have hI1 := hI.1
          have hsz3 := hB5.size
          replace hI := Box.mk hI
          replace hB5 := Box.mk hB5
          gi_wp2
          exact hK _ _ ((KeepsOthers.alloc W5 _).from _) ((Below.refl _ W5).alloc (by assumption) _) ⟨BEI.kept 0 _ _ _ none hI1 (World.grownBy_alloc _ _ none) (fun r e => by cases e), hB5.out.alloc (by assumption) _⟩ ⟨W5.heap.size, hsz, heap_alloc_new W5 _, rfl⟩
        case body =>
          rintro l pre x a' W5 hl hrec ⟨⟨⟨ls, u, o, c, bx, hown, henc, hll, hfew⟩, b1, b2, hbig⟩, hB5⟩ ⟨g, hg, hc, rfl⟩ hlen
          have hds : dsOf (pre ++ [x]) = dsOf pre ++ [x.1.2] := by unfold dsOf; simp
          have hsn := encTxs_snoc _ x.1.2 _ henc
          rw [← hds] at hsn
          have hrow5 := tx_row38 hc
          have hlt : s + 1 + 1 + 1 ≤ W5.heap.size := by omega
          obtain ⟨es, ee, hE⟩ : ∃ es ee, encV x.1.2 = (es, ee) := ⟨_, _, rfl⟩
          have hle : es.length ≤ 1000000 := by have := encV_le x.1.2; rw [hE] at this; exact this
          rw [hE] at hsn
          have hlq : ls.length + 1 ≤ 40 := by have : qs.length ≤ 40 := by { have := h.out.cont; have h2 := congrArg List.length this; rw [List.length_map] at h2; omega }
                                              omega
          have hhl : (headL v m d.txs.length).length = 4 := rfl
          have hgs := (Array.getElem?_eq_some_iff.1 hc).1
          replace henc := Box.mk henc
          replace hds := Box.mk hds
          replace hc := Box.mk hc
          replace bx := Box.mk bx
          replace b1 := Box.mk b1
          replace b2 := Box.mk b2
          replace hown := Box.mk hown
          replace hle := Box.mk hle
          replace hll := Box.mk hll
          replace hfew := Box.mk hfew
          replace hlq := Box.mk hlq
          gi_wp2
          refine ⟨trivial, fun _ => by omega, ?_⟩
          refine (CallsIn.inRound l ((callsIn_wide (n := n - 1 - 1 - 1)).2 (encode_any x.1.1 x.1.2 W5 (x.2.1.below hB5)))).mono ?_
          rw [hE]
          rintro e w' ⟨rfl, hb'⟩
          unfold valE
          have bx' : Boxed w' cb 79 (.slice u o c) := keepBlock hb' bx.out
          have b1' : Boxed w' (s + 1) 9 (.string ⟨#[]⟩) := keepBlock hb' b1.out
          have b2' : Boxed w' (s + 1 + 1) 52 (.int .i64 0) := keepBlock hb' b2.out
          have hown' := hown.out.below hb'
          have hBW' : Below w.heap.size W5 w' := hb'.mono hB5.size
          have hK' := KeepsOthers.ofBelow hb'
          have hsz' := hb'.size
          replace hB5 := Box.mk hB5
          by_cases he : ee = 0
          · subst he
            rw [if_pos rfl] at hsn
            replace hsn := Box.mk hsn
            obtain ⟨g2, c2, w2, hap, hown2, hgr⟩ := app_str (ty := 79) hown' (Nat.le_trans hlt hsz') es (by rw [List.length_append, hhl]; have := hlq.out; omega)
            have hnr := (bx'.alloc (.cells #[.string (sB es)] 9)).not_row (by decide) (hown'.below ((Below.refl _ w').alloc (Nat.le_refl _) (.cells #[.string (sB es)] 9)))
            have bx2 := (bx'.alloc (.cells #[.string (sB es)] 9)).kept hgr hnr
            have b12 := (b1'.alloc (.cells #[.string (sB es)] 9)).kept hgr (fun e => by have := hown'.ownBlock_le (s + 1) e.symm; omega)
            have b22 := (b2'.alloc (.cells #[.string (sB es)] 9)).kept hgr (fun e => by have := hown'.ownBlock_le (s + 1 + 1) e.symm; omega)
            have hK2 := (hK'.trans (KeepsOthers.alloc w' (.cells #[.string (sB es)] 9))).trans (KeepsOthers.of_grownBy hgr (ownV_cells (hown'.below ((Below.refl _ w').alloc (Nat.le_refl _) (.cells #[.string (sB es)] 9)))))
            have hB2 : Below w.heap.size W5 w2 := (hBW'.alloc (Nat.le_trans hB5.out.size hsz') (.cells #[.string (sB es)] 9)).trans ((grown_below hgr hown'.ownBlock_le (by simp; omega)).mono (by rw [hs.out]; omega))
            have e0 := bx'.cell
            have e2 := bx2.cell
            have f2 := bx2.frozen
            have hz2 := hgr.size
            replace bx' := Box.mk bx'
            replace b1' := Box.mk b1'
            replace b2' := Box.mk b2'
            replace hown' := Box.mk hown'
            replace hgr := Box.mk hgr
            replace hnr := Box.mk hnr
            replace bx2 := Box.mk bx2
            replace b12 := Box.mk b12
            replace b22 := Box.mk b22
            replace hown2 := Box.mk hown2
            replace hK2 := Box.mk hK2
            replace hB2 := Box.mk hB2
            gi_wp2
            refine ⟨(hK2.out.trans (KeepsOthers.setCell _ _ _)).from _, hB2.out.setCell (p := ⟨cb, 0, none⟩) (by show _ ≤ cb; rw [hs.out]; omega) _, ⟨⟨ls ++ [es], _, _, _, Boxed.set _ bx2.out, ?_, ?_, ?_, ?_⟩, b12.out.other (by omega) _, b22.out.other (by omega) _, ?_⟩, (hB5.out.trans hB2.out).setCell (p := ⟨cb, 0, none⟩) (by show _ ≤ cb; rw [hs.out]; omega) _⟩
            · have ho2 := hown2.out
              rw [List.length_append, hhl] at ho2
              rw [← List.append_assoc]; exact ownV_set ho2 bx2.out (by decide)
            · rw [hsn.out, List.flatten_append]; simp
            · have := hll.out; simp; omega
            · have h1 := hfew.out
              have h2 := hle.out
              have h3 : (ls ++ [es]).flatten = ls.flatten ++ es := by rw [List.flatten_append]; simp
              rw [h3, List.length_append, List.length_append, List.length_singleton]; omega
            · simp [World.setCell]; simp at hz2; omega
          · rw [if_neg he] at hsn
            replace hsn := Box.mk hsn
            have he1 : (ee == 0) = false := by simpa using he
            have he2 : (ee != 0) = true := by simpa using he
            have e1 := b1'.cell
            have f1 := b1'.frozen
            have e2 := b2'.cell
            have f2 := b2'.frozen
            replace hown' := Box.mk hown'
            replace bx' := Box.mk bx'
            gi_wp2
            refine ⟨((hK'.trans (KeepsOthers.setCell _ _ _)).trans (KeepsOthers.setCell _ _ _)).from _, ⟨rfl, ee, he, hsn.out, (b1'.set _).other (by omega) _, (b2'.other (by omega) _).set _⟩, ((hB5.out.trans hBW').setCell (p := ⟨s + 1, 0, none⟩) (by rw [hs.out]; simp) _).setCell (p := ⟨s + 1 + 1, 0, none⟩) (by rw [hs.out]; simp; omega) _⟩
        case done =>
          rintro D ys W5 hD rfl ⟨⟨⟨ls, u, o, c, bx, hown, henc, hll, hfew⟩, b1, b2, hbig⟩, hB5⟩ hK
          rw [dsOf_tqs h.out (h.out.ok hk.out)] at henc
          have hqd : qs.length = d.txs.length := by have := congrArg List.length h.out.cont; rw [List.length_map] at this; exact this.symm
          rw [tqs_length] at hll hfew
          have hV := Box.mk (blkV_ok (d := d) (by omega) (by omega) henc)
          have hhl : (headL v m d.txs.length).length = 4 := rfl
          obtain ⟨g, cap, cur, hv, hg', hh, hc1, hc2, hc3, hc4⟩ := hown.2.resolve_left (fun hx => by
            have hx2 := hx.2
            rw [strs_length, List.length_append, hhl] at hx2; omega)
          rw [strs_length] at hv hc1
          injection hv with hu ho hc
          subst hu ho hc
          have hcell : ∀ j y, (headL v m d.txs.length ++ ls)[j]? = some y → W5.cell? ⟨g, j, none⟩ = some (.string (sB y)) := fun j y hy => hown.cell (by unfold strs; rw [List.getElem?_map, hy]; rfl)
          have hgl := (Array.getElem?_eq_some_iff.1 hh).1
          have hfl := headL_flat (v := v) (d := d) (m := m) h.out.prev h.out.root hmd
          have hbl := blkHead_le d (by omega)
          have hJ := join_any g c (headL v m d.txs.length ++ ls) W5 hcell hgl (by rw [List.length_append, hhl]; omega) hc1 (by rw [List.flatten_append, hfl, List.length_append]; omega)
          rw [List.flatten_append, hfl] at hJ
          have e0 := bx.cell
          have hL : (headL v m d.txs.length ++ ls).length = 4 + ls.length := by rw [List.length_append, hhl]
          rw [hL] at e0 hJ
          replace hJ := Box.mk hJ
          replace hcell := Box.mk hcell
          replace hh := Box.mk hh
          replace hc4 := Box.mk hc4
          replace hc3 := Box.mk hc3
          replace hc1 := Box.mk hc1
          replace hown := Box.mk hown
          replace bx := Box.mk bx
          replace b1 := Box.mk b1
          replace b2 := Box.mk b2
          replace hfl := Box.mk hfl
          replace henc := Box.mk henc
          replace hll := Box.mk hll
          replace hL := Box.mk hL
          replace hK := Box.mk hK
          gi_wp2
          refine ⟨trivial, ?_⟩
          refine ((callsIn_wide (n := n - 1)).2 hJ.out).mono ?_
          rintro e w' ⟨rfl, hb'⟩
          have b1' : Boxed w' (s + 1) 9 (.string ⟨#[]⟩) := keepBlock hb' b1.out
          have b2' : Boxed w' (s + 1 + 1) 52 (.int .i64 0) := keepBlock hb' b2.out
          have hKd := keepBlock hb' hK.out
          have e1 := b1'.cell
          have f1 := b1'.frozen
          have e2 := b2'.cell
          have f2 := b2'.frozen
          have hB6 := hB5.trans (hb'.mono hB5.size)
          replace hKd := Box.mk hKd
          gi_wp2
          have hK' := ((KeepsOthers.setCell w' ⟨s + 1, 0, none⟩ (.string (sB (blkHead d ++ ls.flatten)))).trans (KeepsOthers.setCell _ ⟨s + 1 + 1, 0, none⟩ (.int .i64 0))).same D _ hKd.out rfl
          refine ⟨by simp, .inl ⟨_, _, rfl, run_takeDeferred hK', ?_⟩⟩
          have y1 := (b1'.set (.string (sB (blkHead d ++ ls.flatten)))).other (B' := s + 1 + 1) (by omega) (.int .i64 0)
          have y2 := (b2'.other (B' := s + 1) (by omega) (.string (sB (blkHead d ++ ls.flatten)))).set (.int .i64 0)
          have z1 : Boxed _ (s + 1) 9 (.string (sB (blkHead d ++ ls.flatten))) := cells_kept y1 (grownBy_putObj' _ D (.deferred none)) (fun r e => by cases e; exact ⟨_, hK', rfl⟩)
          replace z1 := z1.cell
          have z2 : Boxed _ (s + 1 + 1) 52 (.int .i64 0) := cells_kept y2 (grownBy_putObj' _ D (.deferred none)) (fun r e => by cases e; exact ⟨_, hK', rfl⟩)
          replace z2 := z2.cell
          refine ⟨valE (blkHead d ++ ls.flatten, 0), ?_, by rw [hV.out], ((hB6.setCell (p := ⟨s + 1, 0, none⟩) (by rw [hs.out]; simp) _).setCell (p := ⟨s + 1 + 1, 0, none⟩) (by rw [hs.out]; simp; omega) _).trans (belowK_b (w := w) (Nat.le_refl _) _ D _ _ (by have := hBW4.out.size; omega) hK' rfl rfl)⟩
          simp [results, Try.f27, go_sem, z1, z2, valE]
        case stop =>
          rintro D c pre W5 hD hpre ⟨⟨rfl, y, hy0, hy, b1, b2⟩, hB5⟩ hK
          have henc : encTxs d.txs = .error y := by
            obtain ⟨r, hr⟩ := hpre
            rw [← dsOf_tqs h.out (h.out.ok hk.out), ← hr]
            unfold dsOf at hy ⊢
            rw [List.map_append]
            exact encTxs_error _ _ _ hy
          have hV := Box.mk (blkV_err (d := d) (by omega) (by omega) henc)
          replace henc := Box.mk henc
          replace hy := Box.mk hy
          gi_wp2
          refine ⟨by simp, .inl ⟨_, _, rfl, run_takeDeferred hK, ?_⟩⟩
          have z1 : Boxed _ (s + 1) 9 (.string ⟨#[]⟩) := cells_kept b1 (grownBy_putObj' _ D (.deferred none)) (fun r e => by cases e; exact ⟨_, hK, rfl⟩)
          replace z1 := z1.cell
          have z2 : Boxed _ (s + 1 + 1) 52 (.int .i64 y) := cells_kept b2 (grownBy_putObj' _ D (.deferred none)) (fun r e => by cases e; exact ⟨_, hK, rfl⟩)
          replace z2 := z2.cell
          refine ⟨valE ([], y), ?_, by rw [hV.out], hB5.trans (belowK_b (w := w) (Nat.le_refl _) _ D _ _ (by have := hBW4.out.size; omega) hK rfl rfl)⟩
          simp [results, Try.f27, go_sem, z1, z2, valE]
          try rfl

theorem bencode_any (v : BlkV) (qs : List (TxV × TxD)) (d : BlkD) (w : World) (h : BlkL w v qs d) (hk : okB d) :
    Calls Try.prog 27 #[.agg (blkC v).toArray] w (Gives (valE (blkV d)) w) :=
  (callsIn_wide.1 (enc_in 3 (Nat.le_refl _) v qs d w h hk)).mono fun e w' h => h

end Go.Proofs.Ytahkiabpjfcfdaa
