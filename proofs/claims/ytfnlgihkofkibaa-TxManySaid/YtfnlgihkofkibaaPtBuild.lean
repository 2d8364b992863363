/- Points written out: by their index; two of them in a slice. -/
import Derived.Test.YtfnlgihkofkibaaTx
import Derived.Test.YtfnlgihkofkibaaBase
namespace Go.Proofs.Ytfnlgihkofkibaa
set_option maxRecDepth 100000
open Go.RowKit
set_option linter.unusedVariables false
set_option linter.unusedSimpArgs false

def buildPtIdx (P : Program) (w : World) (u : Value) : Result Next := (do pure (.value (← Instr.build 36 #[(1, u)])) : Sem Next).run P w
theorem build_ptidx (ρ : Operand → Value) (dst : Option Tmp) (x : Operand) (t : TypeId) (pos : String) (after : Array Edge) (guard : Option (Nat × Bool)) (w : World) :
    (execOp ρ ⟨dst, .build 36 #[(1, x)], t, pos, after, guard⟩).run Try.prog w = buildPtIdx Try.prog w (ρ x) := by simp [execOp, buildPtIdx]
theorem run_build_ptidx (i : Int) (w : World) : (Instr.build 36 #[(1, Value.int .u32 i)]).run Try.prog w = .ok (.agg (pointC ⟨zeroKey, i⟩).toArray) w := by
  unfold pointC
  kernel_rfl
@[go_sem] theorem buildPtIdx_lit (i : Int) (w : World) : buildPtIdx Try.prog w (.int .u32 i) = .ok (.value (.agg (pointC ⟨zeroKey, i⟩).toArray)) w := by
  unfold buildPtIdx
  rw [Sem.run_bind, run_build_ptidx]
  rfl
theorem infos_point : ∃ i, Try.prog.info? 36 = some i ∧ i.size = 33 ∧ i.zero = some (.agg (pointC zeroPoint).toArray) := by
  have h : (Try.prog.info? 36).map (fun i => (i.size, i.zero)) = some (33, some (.agg (pointC zeroPoint).toArray)) := by kernel_rfl
  obtain ⟨i, hi, h'⟩ := Option.map_eq_some_iff.1 h
  exact ⟨i, hi, congrArg Prod.fst h', congrArg Prod.snd h'⟩
theorem two_point (ρ : Operand → Value) (dst : Option Tmp) (x y : Operand) (t : TypeId) (pos : String) (after : Array Edge) (guard : Option (Nat × Bool)) (w : World) :
    (execOp ρ ⟨dst, .buildSlice 23 2 #[(0, x), (1, y)], t, pos, after, guard⟩).run Try.prog w = twoTo Try.prog 23 36 33 w (ρ x) (ρ y) := by
  obtain ⟨i, hi, hs, hz⟩ := infos_point
  exact exec_two Try.underlying23 hi hs (by omega) (by omega) hz (by simp [go_sem]) ρ dst x y t pos after guard w

end Go.Proofs.Ytfnlgihkofkibaa
