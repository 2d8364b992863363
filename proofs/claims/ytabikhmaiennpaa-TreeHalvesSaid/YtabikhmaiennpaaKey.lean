/- The rules of the type api.Key, in this seat's numbers. -/
import Derived.Test.YtabikhmaiennpaaRows
import Derived.Test.YtabikhmaiennpaaBase
namespace Go.Proofs.Ytabikhmaiennpaa
set_option maxRecDepth 100000
open Go.RowKit

def zeroKey : Key := ⟨List.replicate 32 0, by simp⟩
theorem load_key (ρ : Operand → Value) (dst : Option Tmp) (x : Operand) (t : TypeId) (pos : String) (after : Array Edge) (guard : Option (Nat × Bool)) (w : World) :
    (execOp ρ ⟨dst, .load 23 x, t, pos, after, guard⟩).run Try.prog w = loadTo Try.prog 23 32 w (ρ x) :=
  exec_load Try.underlying23 rfl (by kernel_rfl) ρ dst x t pos after guard w
theorem store_key (ρ : Operand → Value) (dst : Option Tmp) (a x : Operand) (t : TypeId) (pos : String) (after : Array Edge) (guard : Option (Nat × Bool)) (w : World) :
    (execOp ρ ⟨dst, .store 23 a x, t, pos, after, guard⟩).run Try.prog w = storeTo Try.prog 23 32 w (ρ a) (ρ x) :=
  exec_store (by kernel_rfl) ρ dst a x t pos after guard w
theorem alloc_key (ρ : Operand → Value) (dst : Option Tmp) (t : TypeId) (pos : String) (after : Array Edge) (guard : Option (Nat × Bool)) (w : World) :
    (execOp ρ ⟨dst, .alloc 23, t, pos, after, guard⟩).run Try.prog w = .ok (.value (.pointer (some ⟨w.heap.size, 0, none⟩))) (w.alloc (.cells (keyC zeroKey).toArray 23)) :=
  exec_alloc (by kernel_rfl) ρ dst t pos after guard w
theorem build0_key (ρ : Operand → Value) (dst : Option Tmp) (t : TypeId) (pos : String) (after : Array Edge) (guard : Option (Nat × Bool)) (w : World) :
    (execOp ρ ⟨dst, .build 23 #[], t, pos, after, guard⟩).run Try.prog w = .ok (.value (.agg (keyC zeroKey).toArray)) w :=
  exec_build0 (fun w => by kernel_rfl) ρ dst t pos after guard w
theorem info_key : ∃ i, Try.prog.info? 23 = some i ∧ i.size = 32 ∧ i.zero = some (.agg (keyC zeroKey).toArray) := by
  have h : (Try.prog.info? 23).map (fun i => (i.size, i.zero)) = some (32, some (.agg (keyC zeroKey).toArray)) := by kernel_rfl
  obtain ⟨i, hi, h'⟩ := Option.map_eq_some_iff.1 h
  exact ⟨i, hi, congrArg Prod.fst h', congrArg Prod.snd h'⟩
theorem one_key (ρ : Operand → Value) (dst : Option Tmp) (x : Operand) (t : TypeId) (pos : String) (after : Array Edge) (guard : Option (Nat × Bool)) (w : World) :
    (execOp ρ ⟨dst, .buildSlice 33 1 #[(0, x)], t, pos, after, guard⟩).run Try.prog w = oneTo Try.prog 33 23 32 w (ρ x) := by
  obtain ⟨i, hi, hs, hz⟩ := info_key
  exact exec_one Try.underlying33 hi hs (by omega) (by omega) hz (by simp [go_sem]) ρ dst x t pos after guard w
theorem eq_key (ρ : Operand → Value) (op : BinOp) (dst : Option Tmp) (x y : Operand) (ty2 t : TypeId) (pos : String) (after : Array Edge) (guard : Option (Nat × Bool)) (w : World) :
    (execOp ρ ⟨dst, .binOp op 23 x y ty2, t, pos, after, guard⟩).run Try.prog w = eqTo Try.prog op 23 x y w (ρ x) (ρ y) := exec_eq op _ ρ dst x y ty2 t pos after guard w
theorem sizeOf_u8 (w : World) : (sizeOf 5).run Try.prog w = .ok 1 w := by kernel_rfl
@[go_sem] theorem eqTo_eql_key (x y : Operand) (w : World) (a b : Key) : eqTo Try.prog .eql 23 x y w (.agg (keyC a).toArray) (.agg (keyC b).toArray) = .ok (.value (.bool (a == b))) w :=
  eqTo_key Try.underlying23 Try.underlying5 sizeOf_u8 (by kernel_rfl) x y w a b
@[go_sem] theorem eqTo_neql_key (x y : Operand) (w : World) (a b : Key) : eqTo Try.prog .neq 23 x y w (.agg (keyC a).toArray) (.agg (keyC b).toArray) = .ok (.value (.bool (!(a == b)))) w :=
  eqTo_neq_key Try.underlying23 Try.underlying5 sizeOf_u8 (by kernel_rfl) x y w a b

end Go.Proofs.Ytabikhmaiennpaa
