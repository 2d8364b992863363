/- Keys as results. -/
import Derived.Test.YtabikhmaiennpaaKey
namespace Go.Proofs.Ytabikhmaiennpaa
set_option maxRecDepth 100000
open Go.RowKit
set_option linter.unusedVariables false
set_option linter.unusedSimpArgs false

def slowVar (P : Program) (ty : TypeId) (a : Addr) (w : World) : Result Value := (loadVar ty a).run P w
def varGot (slow : Result Value) (w : World) : Option (List Value) → Result Value
  | some cs => .ok (.agg cs.toArray) w
  | none => slow
@[go_sem] theorem varGot_some (slow : Result Value) (w : World) (cs : List Value) : varGot slow w (some cs) = .ok (.agg cs.toArray) w := rfl
theorem run_loadVar_rowOf {P : Program} {ty n : Nat} {d : TypeDesc} (hu : P.underlying ty = some d) (hd : d.isRow = true) (hi : (P.info? ty).map (·.size) = some n) (w : World) (b o : Nat) :
    (loadVar ty ⟨b, o, none⟩).run P w = varGot (slowVar P ty ⟨b, o, none⟩ w) w (rowOf w b o n) := by
  cases h : rowOf w b o n with
  | none => rfl
  | some cs =>
    obtain ⟨h1, h2⟩ := rowOf_some.1 h
    exact run_loadVar_mid w b o ty cs d h2 hu hd (by rw [hi, h1])
theorem run_loadVar_row {P : Program} {ty n : Nat} {d : TypeDesc} (hu : P.underlying ty = some d) (hd : d.isRow = true) (hi : (P.info? ty).map (·.size) = some n) {w : World} {b o : Nat} {cs : List Value} (h : rowOf w b o n = some cs) :
    (loadVar ty ⟨b, o, none⟩).run P w = .ok (.agg cs.toArray) w := by
  rw [run_loadVar_rowOf hu hd hi w b o, h]; rfl
/-! ### A function's results, one by one -/
def oneRes (tmps : Array Value) : ResultVar → Sem Value
  | .tmp t => pure (tmps.getD t undef)
  | .cell a t => do loadVar t (← asAddr (tmps.getD a undef))
theorem res1 {P : Program} {fn : Func} {tmps : Array Value} {w : World} {r1 : ResultVar} {v1 : Value} (h : fn.results = #[r1]) (h1 : (oneRes tmps r1).run P w = .ok v1 w) : (results fn tmps).run P w = .ok v1 w := by
  have e : results fn tmps = (do let vs ← fn.results.mapM (oneRes tmps); pure (if h : vs.size = 1 then vs[0] else .tuple vs)) := rfl
  rw [e, h]
  simp [h1]
theorem res2 {P : Program} {fn : Func} {tmps : Array Value} {w : World} {r1 r2 : ResultVar} {v1 v2 : Value} (h : fn.results = #[r1, r2]) (h1 : (oneRes tmps r1).run P w = .ok v1 w) (h2 : (oneRes tmps r2).run P w = .ok v2 w) : (results fn tmps).run P w = .ok (.tuple #[v1, v2]) w := by
  have e : results fn tmps = (do let vs ← fn.results.mapM (oneRes tmps); pure (if h : vs.size = 1 then vs[0] else .tuple vs)) := rfl
  rw [e, h]
  simp [h1, h2]
theorem res_cell {P : Program} {ty n : Nat} {d : TypeDesc} {tmps : Array Value} {a : Nat} {w : World} {b o : Nat} {cs : List Value} (hu : P.underlying ty = some d) (hd : d.isRow = true) (hi : (P.info? ty).map (·.size) = some n)
    (ht : tmps.getD a undef = .pointer (some ⟨b, o, none⟩)) (h : rowOf w b o n = some cs) : (oneRes tmps (.cell a ty)).run P w = .ok (.agg cs.toArray) w := by
  simp only [oneRes, ht, asAddr, pure_bind]
  exact run_loadVar_row hu hd hi h
theorem res_key {tmps : Array Value} {a : Nat} {w : World} {b o : Nat} {cs : List Value} (ht : tmps.getD a undef = .pointer (some ⟨b, o, none⟩)) (h : rowOf w b o 32 = some cs) :
    (oneRes tmps (.cell a 23)).run Try.prog w = .ok (.agg cs.toArray) w := res_cell Try.underlying23 rfl (by kernel_rfl) ht h

theorem res3 {P : Program} {fn : Func} {tmps : Array Value} {w : World} {r1 r2 r3 : ResultVar} {v1 v2 v3 : Value} (h : fn.results = #[r1, r2, r3]) (h1 : (oneRes tmps r1).run P w = .ok v1 w) (h2 : (oneRes tmps r2).run P w = .ok v2 w) (h3 : (oneRes tmps r3).run P w = .ok v3 w) : (results fn tmps).run P w = .ok (.tuple #[v1, v2, v3]) w := by
  have e : results fn tmps = (do let vs ← fn.results.mapM (oneRes tmps); pure (if h : vs.size = 1 then vs[0] else .tuple vs)) := rfl
  rw [e, h]
  simp [h1, h2, h3]

end Go.Proofs.Ytabikhmaiennpaa
