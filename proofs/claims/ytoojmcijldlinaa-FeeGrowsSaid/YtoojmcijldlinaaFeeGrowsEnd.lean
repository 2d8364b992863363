/- From the readings of the arguments to the walks. -/
import Derived.Test.YtoojmcijldlinaaLawEnd
import Derived.Test.YtoojmcijldlinaaFeeGrows
import Derived.Test.YtoojmcijldlinaaOpenTx
import Derived.Test.YtoojmcijldlinaaOpenKeys
import Derived.ProofKit
import Derived.OpenShut
namespace Go.Proofs.Ytoojmcijldlinaa
open Go.ChangeShapes Go.WideShapes Go.ChangeAt Go.RowKit
set_option linter.unusedVariables false

theorem feeGrows_law {H : Type} {enc : TypeId × Value → H} {base : Nat} (W : World) (v0 v1 : Value) (d0 d1 : DataW H) (p0 p1 : List MemPlace)
    (o0 : Value.okWide Try.prog W .any base 35 v0) (h0 : DataW.Trod enc Try.prog W 0 (fun _ => true) true 35 v0 d0 p0)
    (o1 : Value.okWide Try.prog W .any base 32 v1) (h1 : DataW.Trod enc Try.prog W 0 (fun _ => true) true 32 v1 d1 p1)
    (hsz : (DataW.weightsEach Try.prog [35, 32] [d0, d1]).all (· ≤ reachBytes) = true) :
    Calls Try.prog 4 #[v0, v1] W (LawEnd W) := by
  obtain ⟨t0, ins0, outs0, nulls0, notes0, rfl, hT0⟩ := open_tx o0 h0
  obtain ⟨k1, rfl⟩ := open_key o1 h1
  exact (feeGrows_walk t0 k1 ins0 notes0 W (hT0.ins.sl pointC_length) (hT0.notes.sl keyC_length))

end Go.Proofs.Ytoojmcijldlinaa
