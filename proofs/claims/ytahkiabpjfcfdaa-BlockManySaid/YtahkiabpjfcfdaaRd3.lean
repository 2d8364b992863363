/- Package tx: lists that are read. (printed by mkrd3.py) -/
import Derived.Test.YtahkiabpjfcfdaaRd2
import Derived.Test.YtahkiabpjfcfdaaBase
import Derived.WalkLawsBesides
namespace Go.Proofs.Ytahkiabpjfcfdaa
open Go.RowKit
set_option linter.unusedVariables false
set_option linter.unusedSimpArgs false
set_option maxRecDepth 100000

theorem rinfo_pt : ∃ i, Try.prog.info? 59 = some i ∧ i.size = 33 ∧ i.bytes = 36 ∧ i.zero = some (.agg (pointC zeroPoint).toArray) := by
  have h : (Try.prog.info? 59).map (fun i => (i.size, i.bytes, i.zero)) = some (33, 36, some (.agg (pointC zeroPoint).toArray)) := by kernel_rfl
  obtain ⟨i, hi, h'⟩ := Option.map_eq_some_iff.1 h
  simp only [Prod.mk.injEq] at h'
  exact ⟨i, hi, h'.1, h'.2.1, h'.2.2⟩
theorem rappend_pt (ρ : Operand → Value) (dst : Option Tmp) (x y : Operand) (ty : TypeId) (pos : String) (after : Array Edge) (guard : Option (Nat × Bool)) (w : World) :
    (execOp ρ ⟨dst, .call { callee := .builtin .append, args := #[x, y], argTypes := #[35, 35] }, ty, pos, after, guard⟩).run Try.prog w = appTo Try.prog 35 ty w (ρ x) (ρ y) :=
  exec_append _ ty ρ dst x y pos after guard w
/-- 'append' of one to a slice of the call's own. -/
theorem rapp_pt {w : World} {base : Nat} {u : Option Addr} {n0 c0 : Nat} {l : List PointV} {ty : TypeId} (hown : Own pointC 33 59 w base (.slice u n0 c0) l) (hbase : base ≤ w.heap.size) (x : PointV) (hlen : l.length + 1 ≤ 2000000) :
    ∃ u' c' w', appTo Try.prog 35 ty (w.alloc (.cells (pointC x).toArray 59)) (.slice u n0 c0) (.slice (some ⟨w.heap.size, 0, none⟩) 1 1) = .ok (.value (.slice u' (l.length + 1) c')) w' ∧ Own pointC 33 59 w' base (.slice u' (l.length + 1) c') (l ++ [x]) ∧ Below base w w' ∧ w.heap.size ≤ w'.heap.size := by
  obtain ⟨i, hi, hs, hb, hz⟩ := rinfo_pt
  have hB : Below w.heap.size w (w.alloc (.cells (pointC x).toArray 59)) := (Below.refl _ _).alloc (Nat.le_refl _) _
  have hm : SL pointC 33 (w.alloc (.cells (pointC x).toArray 59)) (some ⟨w.heap.size, 0, none⟩) 1 1 [x] := by
    have := SL.new pointC_length w [x] 59 w.heap.size rfl (by unfold maxLen; simp)
    rw [rows_one] at this
    exact this
  obtain ⟨g, cap', w1, hap, hown', hgr, _⟩ := appTo_own (ty := ty) Try.underlying35 hi hs hb hz pointC_length (by omega) pointC_row (by omega) (hown.below hB) (Nat.le_trans hbase hB.size) (some ⟨w.heap.size, 0, none⟩) 1 [x] hm (by simp) hlen
  exact ⟨_, _, w1, hap, hown', (hB.mono hbase).trans (grown_below hgr hown.ownBlock_le (Nat.le_trans hbase hB.size)), Nat.le_trans hB.size hgr.size⟩

theorem rinfo_out : ∃ i, Try.prog.info? 101 = some i ∧ i.size = 33 ∧ i.bytes = 40 ∧ i.zero = some (.agg (outC zeroOut).toArray) := by
  have h : (Try.prog.info? 101).map (fun i => (i.size, i.bytes, i.zero)) = some (33, 40, some (.agg (outC zeroOut).toArray)) := by kernel_rfl
  obtain ⟨i, hi, h'⟩ := Option.map_eq_some_iff.1 h
  simp only [Prod.mk.injEq] at h'
  exact ⟨i, hi, h'.1, h'.2.1, h'.2.2⟩
theorem rappend_out (ρ : Operand → Value) (dst : Option Tmp) (x y : Operand) (ty : TypeId) (pos : String) (after : Array Edge) (guard : Option (Nat × Bool)) (w : World) :
    (execOp ρ ⟨dst, .call { callee := .builtin .append, args := #[x, y], argTypes := #[36, 36] }, ty, pos, after, guard⟩).run Try.prog w = appTo Try.prog 36 ty w (ρ x) (ρ y) :=
  exec_append _ ty ρ dst x y pos after guard w
/-- 'append' of one to a slice of the call's own. -/
theorem rapp_out {w : World} {base : Nat} {u : Option Addr} {n0 c0 : Nat} {l : List OutV} {ty : TypeId} (hown : Own outC 33 101 w base (.slice u n0 c0) l) (hbase : base ≤ w.heap.size) (x : OutV) (hlen : l.length + 1 ≤ 2000000) :
    ∃ u' c' w', appTo Try.prog 36 ty (w.alloc (.cells (outC x).toArray 101)) (.slice u n0 c0) (.slice (some ⟨w.heap.size, 0, none⟩) 1 1) = .ok (.value (.slice u' (l.length + 1) c')) w' ∧ Own outC 33 101 w' base (.slice u' (l.length + 1) c') (l ++ [x]) ∧ Below base w w' ∧ w.heap.size ≤ w'.heap.size := by
  obtain ⟨i, hi, hs, hb, hz⟩ := rinfo_out
  have hB : Below w.heap.size w (w.alloc (.cells (outC x).toArray 101)) := (Below.refl _ _).alloc (Nat.le_refl _) _
  have hm : SL outC 33 (w.alloc (.cells (outC x).toArray 101)) (some ⟨w.heap.size, 0, none⟩) 1 1 [x] := by
    have := SL.new outC_length w [x] 101 w.heap.size rfl (by unfold maxLen; simp)
    rw [rows_one] at this
    exact this
  obtain ⟨g, cap', w1, hap, hown', hgr, _⟩ := appTo_own (ty := ty) Try.underlying36 hi hs hb hz outC_length (by omega) outC_row (by omega) (hown.below hB) (Nat.le_trans hbase hB.size) (some ⟨w.heap.size, 0, none⟩) 1 [x] hm (by simp) hlen
  exact ⟨_, _, w1, hap, hown', (hB.mono hbase).trans (grown_below hgr hown.ownBlock_le (Nat.le_trans hbase hB.size)), Nat.le_trans hB.size hgr.size⟩

theorem rinfo_key : ∃ i, Try.prog.info? 38 = some i ∧ i.size = 32 ∧ i.bytes = 32 ∧ i.zero = some (.agg (keyC zeroKey).toArray) := by
  have h : (Try.prog.info? 38).map (fun i => (i.size, i.bytes, i.zero)) = some (32, 32, some (.agg (keyC zeroKey).toArray)) := by kernel_rfl
  obtain ⟨i, hi, h'⟩ := Option.map_eq_some_iff.1 h
  simp only [Prod.mk.injEq] at h'
  exact ⟨i, hi, h'.1, h'.2.1, h'.2.2⟩
theorem rappend_key (ρ : Operand → Value) (dst : Option Tmp) (x y : Operand) (ty : TypeId) (pos : String) (after : Array Edge) (guard : Option (Nat × Bool)) (w : World) :
    (execOp ρ ⟨dst, .call { callee := .builtin .append, args := #[x, y], argTypes := #[39, 39] }, ty, pos, after, guard⟩).run Try.prog w = appTo Try.prog 39 ty w (ρ x) (ρ y) :=
  exec_append _ ty ρ dst x y pos after guard w
/-- 'append' of one to a slice of the call's own. -/
theorem rapp_key {w : World} {base : Nat} {u : Option Addr} {n0 c0 : Nat} {l : List Key} {ty : TypeId} (hown : Own keyC 32 38 w base (.slice u n0 c0) l) (hbase : base ≤ w.heap.size) (x : Key) (hlen : l.length + 1 ≤ 2000000) :
    ∃ u' c' w', appTo Try.prog 39 ty (w.alloc (.cells (keyC x).toArray 38)) (.slice u n0 c0) (.slice (some ⟨w.heap.size, 0, none⟩) 1 1) = .ok (.value (.slice u' (l.length + 1) c')) w' ∧ Own keyC 32 38 w' base (.slice u' (l.length + 1) c') (l ++ [x]) ∧ Below base w w' ∧ w.heap.size ≤ w'.heap.size := by
  obtain ⟨i, hi, hs, hb, hz⟩ := rinfo_key
  have hB : Below w.heap.size w (w.alloc (.cells (keyC x).toArray 38)) := (Below.refl _ _).alloc (Nat.le_refl _) _
  have hm : SL keyC 32 (w.alloc (.cells (keyC x).toArray 38)) (some ⟨w.heap.size, 0, none⟩) 1 1 [x] := by
    have := SL.new keyC_length w [x] 38 w.heap.size rfl (by unfold maxLen; simp)
    rw [rows_one] at this
    exact this
  obtain ⟨g, cap', w1, hap, hown', hgr, _⟩ := appTo_own (ty := ty) Try.underlying39 hi hs hb hz keyC_length (by omega) keyC_row (by omega) (hown.below hB) (Nat.le_trans hbase hB.size) (some ⟨w.heap.size, 0, none⟩) 1 [x] hm (by simp) hlen
  exact ⟨_, _, w1, hap, hown', (hB.mono hbase).trans (grown_below hgr hown.ownBlock_le (Nat.le_trans hbase hB.size)), Nat.le_trans hB.size hgr.size⟩

attribute [local irreducible] Int.lt Int.le
attribute [local go_sem ↓] load_key store_key alloc_key build0_key eq_key load_point store_point alloc_point load_out store_out alloc_out load_tx store_tx alloc_tx build_pt build_out one_key one_point one_out rappend_pt rappend_out rappend_key
attribute [local go_sem] rowOf_drew rowOf_alloc_old rowOf_alloc_new canPut_drew canPut_alloc_old canPut_alloc_new setCells_alloc_new

/-- What a list that was read holds. -/
def ListV {α : Type} (f : α → List Value) (N : Nat) (e : TypeId) (base : Nat) (l : List α) (w : World) (v : Value) : Prop := ∃ a len cap, v = .slice a len cap ∧ Own f N e w base (.slice a len cap) l
theorem Own.oth {α : Type} {f : α → List Value} {n : Nat} {e : TypeId} {w w' : World} {base b : Nat} {v : Value} {l : List α} (h : Own f n e w base v l) (ho : Oth b w w') (hb : b < base) : Own f n e w' base v l :=
  h.congr fun g hg hl => ho.block g hl (by omega)
theorem RD.base {b base : Nat} {w w' : World} {s : List UInt8} (h : RD b w s) (hb : Below base w w') (hlt : b < base) : RD b w' s := ⟨by rw [hb.block b hlt]; exact h.heap⟩
theorem Oth.base {b base : Nat} {W w w' : World} (h : Oth b W w) (hb : Below base w w') (hB : W.heap.size ≤ base) (hs : w.heap.size ≤ w'.heap.size) : Oth b W w' :=
  ⟨h.all.trans (hb.mono (Nat.zero_le _)), fun c hc hn => (hb.block c (by omega)).trans (h.block c hc hn)⟩

set_option maxHeartbeats 2000000 in
theorem list_pt_any {pb b : Nat} {w : World} {s : List UInt8} (n : Nat) (h : RD b w s) (hp : PB pb b w) (hn : n ≤ 40) (hs : s.length ≤ 1000000) :
    Calls Try.prog 94 #[.int .i64 n, .func (.func 96) #[] #[.pointer (some ⟨pb, 0, none⟩)]] w (RTo b w (fun l w' v => ListV pointC 33 59 w.heap.size l w' v) (listR ptR n s)) := by
  have hbl := h.lt
  replace h := Box.mk h
  replace hp := Box.mk hp
  have hsb := Box.mk hs
  clear hs
  go_enter Try.func94, Try.ntmps94
  go_wp2_with fail
  go_loopw [5, 7] (fun v i wr => Oth b w wr ∧ ∃ j : Nat, ∃ s' : List UInt8, ∃ l' : List PointV, j ≤ n ∧ i = .int .i64 j ∧ RD b wr s' ∧ s'.length ≤ 1000000 ∧ l'.length = j ∧ behind l' (listR ptR (n - j) s') = listR ptR n s ∧ ∃ u c, v = .slice u j c ∧ Own pointC 33 59 wr w.heap.size (.slice u j c) l') (fun _ i _ => n - (intOf i).toNat)
  case atStart => exact ⟨Oth.refl _ _, 0, s, [], Nat.zero_le _, rfl, h.out, hsb.out, rfl, behind_nil _, none, 0, rfl, Own.nil _ _ _ _ _⟩
  case round =>
    obtain ⟨ho, j, s', l', hj, rfl, hrd, hsl, hll, heq, u, c, rfl, hown⟩ := hrel
    have hpb := hp.out.oth ho
    have hsz := ho.size
    by_cases hlt : j < n
    · have hlt' : (j : Int) < (n : Int) := by omega
      have hj1 : n - j = (n - (j + 1)) + 1 := by omega
      rw [hj1] at heq
      replace hj1 := Box.mk hj1
      replace hsl := Box.mk hsl
      replace hll := Box.mk hll
      rcases hx : ptR s' with y | ⟨x, q⟩
      · have hR : listR ptR n s = .error y := by rw [← heq]; exact behind_error l' hx
        replace hR := Box.mk hR
        replace heq := Box.mk heq
        replace hown := Box.mk hown
        go_wp2_with fail
        refine (rpoint_any hrd hpb hsl.out).mono ?_
        rw [hx]
        rintro e w1 ⟨rfl, o1⟩
        replace hrd := Box.mk hrd
        replace hx := Box.mk hx
        replace hpb := Box.mk hpb
        go_wp2
        exact ⟨rfl, RTo.err hR.out (ho.trans o1)⟩
      · have heq2 : behind (l' ++ [x]) (listR ptR (n - (j + 1)) q) = listR ptR n s := by rw [← heq]; exact (behind_ok l' hx).symm
        have hle := ptR_le hx
        have hq : q.length ≤ 1000000 := by have := hsl.out; omega
        replace hq := Box.mk hq
        replace heq := Box.mk heq
        replace heq2 := Box.mk heq2
        replace hle := Box.mk hle
        have hownb := Box.mk hown
        clear hown
        go_wp2_with fail
        refine (rpoint_any hrd hpb hsl.out).mono ?_
        rw [hx]
        rintro e w1 ⟨v, rfl, rfl, h1, o1⟩
        have hown1 := hownb.out.oth o1 hbl
        have s1 := o1.size
        replace hrd := Box.mk hrd
        replace hx := Box.mk hx
        replace hpb := Box.mk hpb
        replace h1 := Box.mk h1
        go_wp2_with fail
        obtain ⟨u', c', w2, hap, hown2, hb2, hs2⟩ := rapp_pt (ty := 35) hown1 (by omega) x (by have := hll.out; omega)
        rw [hll.out] at hap hown2
        rw [hap]
        replace hown1 := Box.mk hown1
        replace hown2 := Box.mk hown2
        replace hap := Box.mk hap
        go_wp2
        go_roundw
        case rel => exact ⟨(ho.trans o1).base hb2 (Nat.le_refl _) hs2, j + 1, q, l' ++ [x], by omega, by go_num, h1.out.base hb2 hbl, hq.out, by simp [hll.out], heq2.out, u', c', rfl, hown2.out⟩
        case measure => simp [intOf]; omega
    · obtain rfl : j = n := by omega
      rw [Nat.sub_self, behind_zero] at heq
      have hsl2 : ListV pointC 33 59 w.heap.size l' wr (.slice u j c) := ⟨u, j, c, rfl, hown⟩
      replace heq := Box.mk heq.symm
      replace hown := Box.mk hown
      replace hsl := Box.mk hsl
      replace hll := Box.mk hll
      replace hrd := Box.mk hrd
      replace hpb := Box.mk hpb
      replace hsl2 := Box.mk hsl2
      go_wp2
      go_ret
      exact RTo.mk heq.out hsl2.out hrd.out ho


set_option maxHeartbeats 2000000 in
theorem list_out_any {pb b : Nat} {w : World} {s : List UInt8} (n : Nat) (h : RD b w s) (hp : PB pb b w) (hn : n ≤ 40) (hs : s.length ≤ 1000000) :
    Calls Try.prog 98 #[.int .i64 n, .func (.func 99) #[] #[.pointer (some ⟨pb, 0, none⟩)]] w (RTo b w (fun l w' v => ListV outC 33 101 w.heap.size l w' v) (listR outR n s)) := by
  have hbl := h.lt
  replace h := Box.mk h
  replace hp := Box.mk hp
  have hsb := Box.mk hs
  clear hs
  go_enter Try.func98, Try.ntmps98
  go_wp2_with fail
  go_loopw [5, 7] (fun v i wr => Oth b w wr ∧ ∃ j : Nat, ∃ s' : List UInt8, ∃ l' : List OutV, j ≤ n ∧ i = .int .i64 j ∧ RD b wr s' ∧ s'.length ≤ 1000000 ∧ l'.length = j ∧ behind l' (listR outR (n - j) s') = listR outR n s ∧ ∃ u c, v = .slice u j c ∧ Own outC 33 101 wr w.heap.size (.slice u j c) l') (fun _ i _ => n - (intOf i).toNat)
  case atStart => exact ⟨Oth.refl _ _, 0, s, [], Nat.zero_le _, rfl, h.out, hsb.out, rfl, behind_nil _, none, 0, rfl, Own.nil _ _ _ _ _⟩
  case round =>
    obtain ⟨ho, j, s', l', hj, rfl, hrd, hsl, hll, heq, u, c, rfl, hown⟩ := hrel
    have hpb := hp.out.oth ho
    have hsz := ho.size
    by_cases hlt : j < n
    · have hlt' : (j : Int) < (n : Int) := by omega
      have hj1 : n - j = (n - (j + 1)) + 1 := by omega
      rw [hj1] at heq
      replace hj1 := Box.mk hj1
      replace hsl := Box.mk hsl
      replace hll := Box.mk hll
      rcases hx : outR s' with y | ⟨x, q⟩
      · have hR : listR outR n s = .error y := by rw [← heq]; exact behind_error l' hx
        replace hR := Box.mk hR
        replace heq := Box.mk heq
        replace hown := Box.mk hown
        go_wp2_with fail
        refine (rout_any hrd hpb hsl.out).mono ?_
        rw [hx]
        rintro e w1 ⟨rfl, o1⟩
        replace hrd := Box.mk hrd
        replace hx := Box.mk hx
        replace hpb := Box.mk hpb
        go_wp2
        exact ⟨rfl, RTo.err hR.out (ho.trans o1)⟩
      · have heq2 : behind (l' ++ [x]) (listR outR (n - (j + 1)) q) = listR outR n s := by rw [← heq]; exact (behind_ok l' hx).symm
        have hle := outR_le hx
        have hq : q.length ≤ 1000000 := by have := hsl.out; omega
        replace hq := Box.mk hq
        replace heq := Box.mk heq
        replace heq2 := Box.mk heq2
        replace hle := Box.mk hle
        have hownb := Box.mk hown
        clear hown
        go_wp2_with fail
        refine (rout_any hrd hpb hsl.out).mono ?_
        rw [hx]
        rintro e w1 ⟨v, rfl, rfl, h1, o1⟩
        have hown1 := hownb.out.oth o1 hbl
        have s1 := o1.size
        replace hrd := Box.mk hrd
        replace hx := Box.mk hx
        replace hpb := Box.mk hpb
        replace h1 := Box.mk h1
        go_wp2_with fail
        obtain ⟨u', c', w2, hap, hown2, hb2, hs2⟩ := rapp_out (ty := 36) hown1 (by omega) x (by have := hll.out; omega)
        rw [hll.out] at hap hown2
        rw [hap]
        replace hown1 := Box.mk hown1
        replace hown2 := Box.mk hown2
        replace hap := Box.mk hap
        go_wp2
        go_roundw
        case rel => exact ⟨(ho.trans o1).base hb2 (Nat.le_refl _) hs2, j + 1, q, l' ++ [x], by omega, by go_num, h1.out.base hb2 hbl, hq.out, by simp [hll.out], heq2.out, u', c', rfl, hown2.out⟩
        case measure => simp [intOf]; omega
    · obtain rfl : j = n := by omega
      rw [Nat.sub_self, behind_zero] at heq
      have hsl2 : ListV outC 33 101 w.heap.size l' wr (.slice u j c) := ⟨u, j, c, rfl, hown⟩
      replace heq := Box.mk heq.symm
      replace hown := Box.mk hown
      replace hsl := Box.mk hsl
      replace hll := Box.mk hll
      replace hrd := Box.mk hrd
      replace hpb := Box.mk hpb
      replace hsl2 := Box.mk hsl2
      go_wp2
      go_ret
      exact RTo.mk heq.out hsl2.out hrd.out ho


set_option maxHeartbeats 2000000 in
theorem list_key_any {pb b : Nat} {w : World} {s : List UInt8} (n : Nat) (h : RD b w s) (hp : PB pb b w) (hn : n ≤ 40) (hs : s.length ≤ 1000000) :
    Calls Try.prog 100 #[.int .i64 n, .func (.func 97) #[.pointer (some ⟨b, 0, none⟩)] #[]] w (RTo b w (fun l w' v => ListV keyC 32 38 w.heap.size l w' v) (listR keyR n s)) := by
  have hbl := h.lt
  replace h := Box.mk h
  replace hp := Box.mk hp
  have hsb := Box.mk hs
  clear hs
  go_enter Try.func100, Try.ntmps100
  go_wp2_with fail
  go_loopw [5, 7] (fun v i wr => Oth b w wr ∧ ∃ j : Nat, ∃ s' : List UInt8, ∃ l' : List Key, j ≤ n ∧ i = .int .i64 j ∧ RD b wr s' ∧ s'.length ≤ 1000000 ∧ l'.length = j ∧ behind l' (listR keyR (n - j) s') = listR keyR n s ∧ ∃ u c, v = .slice u j c ∧ Own keyC 32 38 wr w.heap.size (.slice u j c) l') (fun _ i _ => n - (intOf i).toNat)
  case atStart => exact ⟨Oth.refl _ _, 0, s, [], Nat.zero_le _, rfl, h.out, hsb.out, rfl, behind_nil _, none, 0, rfl, Own.nil _ _ _ _ _⟩
  case round =>
    obtain ⟨ho, j, s', l', hj, rfl, hrd, hsl, hll, heq, u, c, rfl, hown⟩ := hrel
    have hpb := hp.out.oth ho
    have hsz := ho.size
    by_cases hlt : j < n
    · have hlt' : (j : Int) < (n : Int) := by omega
      have hj1 : n - j = (n - (j + 1)) + 1 := by omega
      rw [hj1] at heq
      replace hj1 := Box.mk hj1
      replace hsl := Box.mk hsl
      replace hll := Box.mk hll
      rcases hx : keyR s' with y | ⟨x, q⟩
      · have hR : listR keyR n s = .error y := by rw [← heq]; exact behind_error l' hx
        replace hR := Box.mk hR
        replace heq := Box.mk heq
        replace hown := Box.mk hown
        go_wp2_with fail
        refine (rkey_any hrd hsl.out).mono ?_
        rw [hx]
        rintro e w1 ⟨rfl, o1⟩
        replace hrd := Box.mk hrd
        replace hx := Box.mk hx
        replace hpb := Box.mk hpb
        go_wp2
        exact ⟨rfl, RTo.err hR.out (ho.trans o1)⟩
      · have heq2 : behind (l' ++ [x]) (listR keyR (n - (j + 1)) q) = listR keyR n s := by rw [← heq]; exact (behind_ok l' hx).symm
        have hle := keyR_le hx
        have hq : q.length ≤ 1000000 := by have := hsl.out; omega
        replace hq := Box.mk hq
        replace heq := Box.mk heq
        replace heq2 := Box.mk heq2
        replace hle := Box.mk hle
        have hownb := Box.mk hown
        clear hown
        go_wp2_with fail
        refine (rkey_any hrd hsl.out).mono ?_
        rw [hx]
        rintro e w1 ⟨v, rfl, rfl, h1, o1⟩
        have hown1 := hownb.out.oth o1 hbl
        have s1 := o1.size
        replace hrd := Box.mk hrd
        replace hx := Box.mk hx
        replace hpb := Box.mk hpb
        replace h1 := Box.mk h1
        go_wp2_with fail
        obtain ⟨u', c', w2, hap, hown2, hb2, hs2⟩ := rapp_key (ty := 39) hown1 (by omega) x (by have := hll.out; omega)
        rw [hll.out] at hap hown2
        rw [hap]
        replace hown1 := Box.mk hown1
        replace hown2 := Box.mk hown2
        replace hap := Box.mk hap
        go_wp2
        go_roundw
        case rel => exact ⟨(ho.trans o1).base hb2 (Nat.le_refl _) hs2, j + 1, q, l' ++ [x], by omega, by go_num, h1.out.base hb2 hbl, hq.out, by simp [hll.out], heq2.out, u', c', rfl, hown2.out⟩
        case measure => simp [intOf]; omega
    · obtain rfl : j = n := by omega
      rw [Nat.sub_self, behind_zero] at heq
      have hsl2 : ListV keyC 32 38 w.heap.size l' wr (.slice u j c) := ⟨u, j, c, rfl, hown⟩
      replace heq := Box.mk heq.symm
      replace hown := Box.mk hown
      replace hsl := Box.mk hsl
      replace hll := Box.mk hll
      replace hrd := Box.mk hrd
      replace hpb := Box.mk hpb
      replace hsl2 := Box.mk hsl2
      go_wp2
      go_ret
      exact RTo.mk heq.out hsl2.out hrd.out ho


end Go.Proofs.Ytahkiabpjfcfdaa
