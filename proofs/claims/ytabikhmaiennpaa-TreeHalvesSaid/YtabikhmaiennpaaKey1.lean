/- Keys that are written out by their first byte. -/
import Derived.Test.YtabikhmaiennpaaKey
import Derived.WalkKit
namespace Go.Proofs.Ytabikhmaiennpaa
set_option maxRecDepth 100000
open Go.RowKit
set_option linter.unusedVariables false
set_option linter.unusedSimpArgs false

/-- Keys that are nothing but a first byte, or two. -/
def key1 (a : UInt8) : Key := ⟨a :: List.replicate 31 0, by simp⟩
theorem key1_cells (a : UInt8) : (keyC (key1 a)).toArray = (Value.int .u8 a.toNat :: List.replicate 31 (.int .u8 0)).toArray := by unfold keyC key1; rfl

theorem run_build1 (n : Int) (w : World) : (Instr.build 23 #[(0, .int .u8 n)]).run Try.prog w = .ok (.agg (Value.int .u8 n :: List.replicate 31 (.int .u8 0)).toArray) w := by kernel_rfl

def slowBuild1 (P : Program) (t : TypeId) (u : Value) (w : World) : Result Next := (do pure (.value (← Instr.build t #[(0, u)])) : Sem Next).run P w
def build1To (P : Program) (t : TypeId) (w : World) (u : Value) : Result Next :=
  match u with
  | .int .u8 (.ofNat n) => if n < 256 then .ok (.value (.agg (keyC (key1 (UInt8.ofNat n))).toArray)) w else slowBuild1 P t u w
  | u => slowBuild1 P t u w
@[go_sem] theorem build1To_lit (P : Program) (t : TypeId) (w : World) (n : Nat) (h : n < 256) : build1To P t w (.int .u8 n) = .ok (.value (.agg (keyC (key1 (UInt8.ofNat n))).toArray)) w := by
  show (if n < 256 then _ else _) = _
  rw [if_pos h]
@[go_sem] theorem build1To_2 (P : Program) (t : TypeId) (w : World) : build1To P t w (.int .u8 2) = .ok (.value (.agg (keyC (key1 2)).toArray)) w := build1To_lit P t w 2 (by omega)
@[go_sem] theorem build1To_7 (P : Program) (t : TypeId) (w : World) : build1To P t w (.int .u8 7) = .ok (.value (.agg (keyC (key1 7)).toArray)) w := build1To_lit P t w 7 (by omega)
@[go_sem] theorem build1To_9 (P : Program) (t : TypeId) (w : World) : build1To P t w (.int .u8 9) = .ok (.value (.agg (keyC (key1 9)).toArray)) w := build1To_lit P t w 9 (by omega)
@[go_sem] theorem build1To_77 (P : Program) (t : TypeId) (w : World) : build1To P t w (.int .u8 77) = .ok (.value (.agg (keyC (key1 77)).toArray)) w := build1To_lit P t w 77 (by omega)
@[go_sem] theorem build1To_1 (P : Program) (t : TypeId) (w : World) : build1To P t w (.int .u8 1) = .ok (.value (.agg (keyC (key1 1)).toArray)) w := build1To_lit P t w 1 (by omega)
theorem build1_key (ρ : Operand → Value) (dst : Option Tmp) (x : Operand) (t : TypeId) (pos : String) (after : Array Edge) (guard : Option (Nat × Bool)) (w : World) :
    (execOp ρ ⟨dst, .build 23 #[(0, x)], t, pos, after, guard⟩).run Try.prog w = build1To Try.prog 23 w (ρ x) := by
  have hslow : (execOp ρ ⟨dst, .build 23 #[(0, x)], t, pos, after, guard⟩).run Try.prog w = slowBuild1 Try.prog 23 (ρ x) w := by simp [execOp, slowBuild1]
  unfold build1To
  split
  · rename_i n hv
    split
    · rename_i hn
      rw [hslow, hv, slowBuild1, Sem.run_bind, run_build1, key1_cells, show (UInt8.ofNat n).toNat = n from by simp; omega]
      rfl
    · rw [hslow]
  · rw [hslow]

end Go.Proofs.Ytabikhmaiennpaa
