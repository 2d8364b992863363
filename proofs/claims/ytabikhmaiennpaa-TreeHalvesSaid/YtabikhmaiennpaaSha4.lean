/- Package sha: rows of sixteen, of eight, of sixty-four words; a block. -/
import Derived.Test.YtabikhmaiennpaaSha3
import Derived.Test.YtabikhmaiennpaaBase
namespace Go.Proofs.Ytabikhmaiennpaa
open Go.RowKit
set_option linter.unusedVariables false
set_option linter.unusedSimpArgs false
set_option maxRecDepth 100000

theorem load_u16 (ρ : Operand → Value) (dst : Option Tmp) (x : Operand) (t : TypeId) (pos : String) (after : Array Edge) (guard : Option (Nat × Bool)) (w : World) :
    (execOp ρ ⟨dst, .load 75 x, t, pos, after, guard⟩).run Try.prog w = loadTo Try.prog 75 16 w (ρ x) :=
  exec_load Try.underlying75 rfl (by kernel_rfl) ρ dst x t pos after guard w
theorem store_u16 (ρ : Operand → Value) (dst : Option Tmp) (a x : Operand) (t : TypeId) (pos : String) (after : Array Edge) (guard : Option (Nat × Bool)) (w : World) :
    (execOp ρ ⟨dst, .store 75 a x, t, pos, after, guard⟩).run Try.prog w = storeTo Try.prog 75 16 w (ρ a) (ρ x) :=
  exec_store (by kernel_rfl) ρ dst a x t pos after guard w
theorem alloc_u16 (ρ : Operand → Value) (dst : Option Tmp) (t : TypeId) (pos : String) (after : Array Edge) (guard : Option (Nat × Bool)) (w : World) :
    (execOp ρ ⟨dst, .alloc 75, t, pos, after, guard⟩).run Try.prog w = .ok (.value (.pointer (some ⟨w.heap.size, 0, none⟩))) (w.alloc (.cells (uC (List.replicate 16 0)).toArray 75)) :=
  exec_alloc (by kernel_rfl) ρ dst t pos after guard w
theorem build0_u16 (ρ : Operand → Value) (dst : Option Tmp) (t : TypeId) (pos : String) (after : Array Edge) (guard : Option (Nat × Bool)) (w : World) :
    (execOp ρ ⟨dst, .build 75 #[], t, pos, after, guard⟩).run Try.prog w = .ok (.value (.agg (uC (List.replicate 16 0)).toArray)) w :=
  exec_build0 (fun w => by kernel_rfl) ρ dst t pos after guard w
theorem load_u8w (ρ : Operand → Value) (dst : Option Tmp) (x : Operand) (t : TypeId) (pos : String) (after : Array Edge) (guard : Option (Nat × Bool)) (w : World) :
    (execOp ρ ⟨dst, .load 52 x, t, pos, after, guard⟩).run Try.prog w = loadTo Try.prog 52 8 w (ρ x) :=
  exec_load Try.underlying52 rfl (by kernel_rfl) ρ dst x t pos after guard w
theorem store_u8w (ρ : Operand → Value) (dst : Option Tmp) (a x : Operand) (t : TypeId) (pos : String) (after : Array Edge) (guard : Option (Nat × Bool)) (w : World) :
    (execOp ρ ⟨dst, .store 52 a x, t, pos, after, guard⟩).run Try.prog w = storeTo Try.prog 52 8 w (ρ a) (ρ x) :=
  exec_store (by kernel_rfl) ρ dst a x t pos after guard w
theorem alloc_u8w (ρ : Operand → Value) (dst : Option Tmp) (t : TypeId) (pos : String) (after : Array Edge) (guard : Option (Nat × Bool)) (w : World) :
    (execOp ρ ⟨dst, .alloc 52, t, pos, after, guard⟩).run Try.prog w = .ok (.value (.pointer (some ⟨w.heap.size, 0, none⟩))) (w.alloc (.cells (uC (List.replicate 8 0)).toArray 52)) :=
  exec_alloc (by kernel_rfl) ρ dst t pos after guard w
theorem build0_u8w (ρ : Operand → Value) (dst : Option Tmp) (t : TypeId) (pos : String) (after : Array Edge) (guard : Option (Nat × Bool)) (w : World) :
    (execOp ρ ⟨dst, .build 52 #[], t, pos, after, guard⟩).run Try.prog w = .ok (.value (.agg (uC (List.replicate 8 0)).toArray)) w :=
  exec_build0 (fun w => by kernel_rfl) ρ dst t pos after guard w
theorem load_st (ρ : Operand → Value) (dst : Option Tmp) (x : Operand) (t : TypeId) (pos : String) (after : Array Edge) (guard : Option (Nat × Bool)) (w : World) :
    (execOp ρ ⟨dst, .load 61 x, t, pos, after, guard⟩).run Try.prog w = loadTo Try.prog 61 8 w (ρ x) :=
  exec_load Try.underlying61 rfl (by kernel_rfl) ρ dst x t pos after guard w
theorem store_st (ρ : Operand → Value) (dst : Option Tmp) (a x : Operand) (t : TypeId) (pos : String) (after : Array Edge) (guard : Option (Nat × Bool)) (w : World) :
    (execOp ρ ⟨dst, .store 61 a x, t, pos, after, guard⟩).run Try.prog w = storeTo Try.prog 61 8 w (ρ a) (ρ x) :=
  exec_store (by kernel_rfl) ρ dst a x t pos after guard w
theorem alloc_st (ρ : Operand → Value) (dst : Option Tmp) (t : TypeId) (pos : String) (after : Array Edge) (guard : Option (Nat × Bool)) (w : World) :
    (execOp ρ ⟨dst, .alloc 61, t, pos, after, guard⟩).run Try.prog w = .ok (.value (.pointer (some ⟨w.heap.size, 0, none⟩))) (w.alloc (.cells (uC (List.replicate 8 0)).toArray 61)) :=
  exec_alloc (by kernel_rfl) ρ dst t pos after guard w
theorem build0_st (ρ : Operand → Value) (dst : Option Tmp) (t : TypeId) (pos : String) (after : Array Edge) (guard : Option (Nat × Bool)) (w : World) :
    (execOp ρ ⟨dst, .build 61 #[], t, pos, after, guard⟩).run Try.prog w = .ok (.value (.agg (uC (List.replicate 8 0)).toArray)) w :=
  exec_build0 (fun w => by kernel_rfl) ρ dst t pos after guard w
theorem load_u64w (ρ : Operand → Value) (dst : Option Tmp) (x : Operand) (t : TypeId) (pos : String) (after : Array Edge) (guard : Option (Nat × Bool)) (w : World) :
    (execOp ρ ⟨dst, .load 55 x, t, pos, after, guard⟩).run Try.prog w = loadTo Try.prog 55 64 w (ρ x) :=
  exec_load Try.underlying55 rfl (by kernel_rfl) ρ dst x t pos after guard w
theorem store_u64w (ρ : Operand → Value) (dst : Option Tmp) (a x : Operand) (t : TypeId) (pos : String) (after : Array Edge) (guard : Option (Nat × Bool)) (w : World) :
    (execOp ρ ⟨dst, .store 55 a x, t, pos, after, guard⟩).run Try.prog w = storeTo Try.prog 55 64 w (ρ a) (ρ x) :=
  exec_store (by kernel_rfl) ρ dst a x t pos after guard w
theorem alloc_u64w (ρ : Operand → Value) (dst : Option Tmp) (t : TypeId) (pos : String) (after : Array Edge) (guard : Option (Nat × Bool)) (w : World) :
    (execOp ρ ⟨dst, .alloc 55, t, pos, after, guard⟩).run Try.prog w = .ok (.value (.pointer (some ⟨w.heap.size, 0, none⟩))) (w.alloc (.cells (uC (List.replicate 64 0)).toArray 55)) :=
  exec_alloc (by kernel_rfl) ρ dst t pos after guard w
theorem build0_u64w (ρ : Operand → Value) (dst : Option Tmp) (t : TypeId) (pos : String) (after : Array Edge) (guard : Option (Nat × Bool)) (w : World) :
    (execOp ρ ⟨dst, .build 55 #[], t, pos, after, guard⟩).run Try.prog w = .ok (.value (.agg (uC (List.replicate 64 0)).toArray)) w :=
  exec_build0 (fun w => by kernel_rfl) ρ dst t pos after guard w

/-! ### A slice as an array's address -/
def slowArr (P : Program) (t : TypeId) (v : Value) (w : World) : Result Next := (do pure (.value (← Instr.arrayAt t v)) : Sem Next).run P w
def arrTo (P : Program) (t : TypeId) (n : Nat) (w : World) (v : Value) : Result Next :=
  match v with
  | .slice (some a) l c => if l < n then slowArr P t v w else .ok (.value (.pointer (some a))) w
  | _ => slowArr P t v w
@[go_sem] theorem arrTo_ok (P : Program) (t : TypeId) (n l c : Nat) (a : Addr) (w : World) :
    arrTo P t n w (.slice (some a) l c) = if l < n then slowArr P t (.slice (some a) l c) w else .ok (.value (.pointer (some a))) w := rfl
theorem exec_arr {P : Program} {t e : TypeId} {n : Nat} (hu : P.underlying t = some (.array n e))
    (ρ : Operand → Value) (dst : Option Tmp) (x : Operand) (t' : TypeId) (pos : String) (after : Array Edge) (guard : Option (Nat × Bool)) (w : World) :
    (execOp ρ ⟨dst, .sliceToArrayPointer t x, t', pos, after, guard⟩).run P w = arrTo P t n w (ρ x) := by
  have hslow : (execOp ρ ⟨dst, .sliceToArrayPointer t x, t', pos, after, guard⟩).run P w = slowArr P t (ρ x) w := rfl
  rw [hslow]
  unfold arrTo
  split
  · rename_i a l c hv
    rw [hv]
    split
    · rfl
    · rename_i h
      simp only [slowArr, Instr.arrayAt, Sem.run_bind, run_underlying hu, Result.andThen_ok, if_neg h, Sem.run_pure]
  · rfl
theorem arr_u16 (ρ : Operand → Value) (dst : Option Tmp) (x : Operand) (t' : TypeId) (pos : String) (after : Array Edge) (guard : Option (Nat × Bool)) (w : World) :
    (execOp ρ ⟨dst, .sliceToArrayPointer 75 x, t', pos, after, guard⟩).run Try.prog w = arrTo Try.prog 75 16 w (ρ x) :=
  exec_arr Try.underlying75 ρ dst x t' pos after guard w

/-! ### A word of a row that is a value -/
def slowIx (P : Program) (t : TypeId) (v u : Value) (w : World) : Result Next := (do pure (.value (← Instr.index t v u)) : Sem Next).run P w
def ixTo (P : Program) (t : TypeId) (n : Nat) (w : World) (v u : Value) : Result Next :=
  match v, u with
  | .agg cs, .int .i64 i => if 0 ≤ i ∧ i < n then (match cs.toList[i.toNat]? with | some (.int k x) => .ok (.value (.int k x)) w | _ => slowIx P t v u w) else slowIx P t v u w
  | _, _ => slowIx P t v u w
theorem ixTo_ok (P : Program) (t : TypeId) (n : Nat) (w : World) (cs : List Value) {i : Nat} (hi : (i : Int) < n) {k : IntKind} {x : Int} (hx : cs[i]? = some (.int k x)) :
    ixTo P t n w (.agg cs.toArray) (.int .i64 i) = .ok (.value (.int k x)) w := by
  simp only [ixTo]
  rw [if_pos ⟨by omega, hi⟩]
  simp [hx]
theorem exec_ix {P : Program} {t e : TypeId} {n : Nat} (hu : P.underlying t = some (.array n e)) (hs : ∀ w, (sizeOf e).run P w = .ok 1 w) (hz : ∀ w, (isAgg e).run P w = .ok false w)
    (ρ : Operand → Value) (dst : Option Tmp) (x y : Operand) (t' : TypeId) (pos : String) (after : Array Edge) (guard : Option (Nat × Bool)) (w : World) :
    (execOp ρ ⟨dst, .index t x y, t', pos, after, guard⟩).run P w = ixTo P t n w (ρ x) (ρ y) := by
  have hslow : (execOp ρ ⟨dst, .index t x y, t', pos, after, guard⟩).run P w = slowIx P t (ρ x) (ρ y) w := rfl
  rw [hslow]
  unfold ixTo
  split
  · rename_i cs i hv hu'
    rw [hv, hu']
    split
    · rename_i h
      split
      · rename_i k x' hx
        have hx' : cs[i.toNat]? = some (.int k x') := by simpa using hx
        simp only [slowIx, Instr.index, asIntOf, Sem.run_bind, Sem.run_pure, run_underlying hu, Result.andThen_ok, if_pos h, hs, hz, part, Nat.mul_one, Bool.false_eq_true, if_false, hx']
      · rfl
    · rfl
  · rfl
theorem ix_u8w (ρ : Operand → Value) (dst : Option Tmp) (x y : Operand) (t' : TypeId) (pos : String) (after : Array Edge) (guard : Option (Nat × Bool)) (w : World) :
    (execOp ρ ⟨dst, .index 52 x y, t', pos, after, guard⟩).run Try.prog w = ixTo Try.prog 52 8 w (ρ x) (ρ y) :=
  exec_ix Try.underlying52 (fun w => by kernel_rfl) (fun w => by kernel_rfl) ρ dst x y t' pos after guard w

end Go.Proofs.Ytabikhmaiennpaa
