/- The rules of []api.Key, in this seat's numbers. -/
import Derived.Test.YtabikhmaiennpaaKey
import Derived.Test.YtabikhmaiennpaaBase
import Derived.WalkSpells
namespace Go.Proofs.Ytabikhmaiennpaa
set_option maxRecDepth 100000
open Go.RowKit

theorem info_keys : ∃ i, Try.prog.info? 23 = some i ∧ i.size = 32 ∧ i.bytes = 32 ∧ i.zero = some (.agg (keyC zeroKey).toArray) := by
  have h : (Try.prog.info? 23).map (fun i => (i.size, i.bytes, i.zero)) = some (32, 32, some (.agg (keyC zeroKey).toArray)) := by kernel_rfl
  obtain ⟨i, hi, h'⟩ := Option.map_eq_some_iff.1 h
  simp only [Prod.mk.injEq] at h'
  exact ⟨i, hi, h'.1, h'.2.1, h'.2.2⟩
theorem make_key (ρ : Operand → Value) (dst : Option Tmp) (x y : Operand) (t' : TypeId) (pos : String) (after : Array Edge) (guard : Option (Nat × Bool)) (w : World) :
    (execOp ρ ⟨dst, .makeSlice 33 x y, t', pos, after, guard⟩).run Try.prog w = makeTo Try.prog 33 23 (fun k => rows keyC (List.replicate k zeroKey)) w (ρ x) (ρ y) := by
  obtain ⟨i, hi, hs, hb, hz⟩ := info_keys
  exact exec_make Try.underlying33 hi hs hb hz (keyC_length _) (by omega) (by omega) ρ dst x y t' pos after guard w
theorem sizeOf_key (w : World) : (sizeOf 23).run Try.prog w = .ok 32 w := by kernel_rfl
theorem copy_key (ρ : Operand → Value) (dst : Option Tmp) (x y : Operand) (ty : TypeId) (pos : String) (after : Array Edge) (guard : Option (Nat × Bool)) (w : World) :
    (execOp ρ ⟨dst, .call { callee := .builtin .copy, args := #[x, y], argTypes := #[33, 33] }, ty, pos, after, guard⟩).run Try.prog w = copyTo Try.prog 33 ty 32 w (ρ x) (ρ y) :=
  exec_copy Try.underlying33 sizeOf_key ρ dst x y pos after guard w
theorem append_key (ρ : Operand → Value) (dst : Option Tmp) (x y : Operand) (ty : TypeId) (pos : String) (after : Array Edge) (guard : Option (Nat × Bool)) (w : World) :
    (execOp ρ ⟨dst, .call { callee := .builtin .append, args := #[x, y], argTypes := #[33, 33] }, ty, pos, after, guard⟩).run Try.prog w = appTo Try.prog 33 ty w (ρ x) (ρ y) :=
  exec_append _ ty ρ dst x y pos after guard w
/-- A slice of keys of the call's own. -/
abbrev KOwn (w : World) (base : Nat) (v : Value) (l : List Key) : Prop := Own keyC 32 23 w base v l
theorem app_keys {w : World} {base : Nat} {v : Value} {l : List Key} {ty : TypeId} (hown : KOwn w base v l) (hbase : base ≤ w.heap.size) (a : Option Addr) (cap : Nat) (m : List Key) (hm : SL keyC 32 w a m.length cap m) (hne : m ≠ []) (hlen : l.length + m.length ≤ 2000000) :
    ∃ g cap' w', appTo Try.prog 33 ty w v (.slice a m.length cap) = .ok (.value (.slice (some ⟨g, 0, none⟩) (l.length + m.length) cap')) w' ∧ KOwn w' base (.slice (some ⟨g, 0, none⟩) (l.length + m.length) cap') (l ++ m) ∧ w.grownBy w' v.ownBlock ∧ (v.ownBlock = some g ∨ g = w.heap.size) := by
  obtain ⟨i, hi, hs, hb, hz⟩ := info_keys
  exact appTo_own Try.underlying33 hi hs hb hz keyC_length (by omega) keyC_row (by omega) hown hbase a cap m hm hne hlen
theorem app_no_keys {w : World} {ty : TypeId} (u : Option Addr) (len cap : Nat) (hc : len ≤ cap) (hnone : u = none → cap = 0) (a : Option Addr) (c : Nat) : appTo Try.prog 33 ty w (.slice u len cap) (.slice a 0 c) = .ok (.value (.slice u len cap)) w :=
  appTo_none Try.underlying33 sizeOf_key u len cap hc hnone a c

/-- A slice of keys in a world. -/
abbrev KL (w : World) (a : Option Addr) (cap : Nat) (l : List Key) : Prop := SL keyC 32 w a l.length cap l
theorem KL.at {w : World} {a : Option Addr} {cap : Nat} {l : List Key} (h : KL w a cap l) {i : Nat} {x : Key} (hx : l[i]? = some x) : ∃ b o, a = some ⟨b, o, none⟩ ∧ b < w.heap.size ∧ rowOf w b (o + i * 32) 32 = some (keyC x) := SL.elem keyC_length h hx


@[go_sem] theorem rowsKey_length (l : List Key) : (rows keyC l).length = l.length * 32 := rows_length keyC_length l
@[go_sem] theorem setKeys_prefix (w : World) (ds l : List Key) (t : TypeId) (fr : Nat × Nat) (b : Nat) (hb : b = w.heap.size) (h : l.length ≤ ds.length) :
    (w.alloc (.cells (rows keyC ds).toArray t fr)).setCells b 0 (rows keyC l) = w.alloc (.cells (rows keyC (l ++ ds.drop l.length)).toArray t fr) := setCells_rows_prefix keyC_length w ds l t fr b hb h
@[go_sem] theorem setKey_at (w : World) (ds : List Key) (x : Key) (t : TypeId) (fr : Nat × Nat) (b i : Nat) (hb : b = w.heap.size) (h : i < ds.length) :
    (w.alloc (.cells (rows keyC ds).toArray t fr)).setCells b (i * 32) (keyC x) = w.alloc (.cells (rows keyC (ds.set i x)).toArray t fr) := setCells_rows_elem keyC_length w ds x t fr b _ i hb rfl h
@[go_sem] theorem setKey_0 (w : World) (ds : List Key) (x : Key) (t : TypeId) (fr : Nat × Nat) (b : Nat) (hb : b = w.heap.size) (h : 0 < ds.length) :
    (w.alloc (.cells (rows keyC ds).toArray t fr)).setCells b 0 (keyC x) = w.alloc (.cells (rows keyC (ds.set 0 x)).toArray t fr) := setCells_rows_elem keyC_length w ds x t fr b 0 0 hb (by simp) h
theorem isRow_keys (l : List Key) : isRow (l.length * 32) (rows keyC l) = true := rows_row keyC_row l
attribute [go_sem] isRow_keys

@[go_sem] theorem eql_keys_nil (w : World) (a : Option Addr) (n c : Nat) : (binOp .eql 33 (.slice a n c) (.slice none 0 0)).run Try.prog w = .ok (.bool a.isNone) w := Lib.run_eql_slice_nil w _ _ a n c 0 0 Try.underlying33

end Go.Proofs.Ytabikhmaiennpaa
