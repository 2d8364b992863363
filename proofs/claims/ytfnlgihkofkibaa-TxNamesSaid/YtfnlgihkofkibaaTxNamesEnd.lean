/- From the readings of the arguments to the walks. -/
import Derived.Test.YtfnlgihkofkibaaLawEnd
import Derived.Test.YtfnlgihkofkibaaTxNames
import Derived.Test.YtfnlgihkofkibaaOpenTx
import Derived.ProofKit
import Derived.OpenShut
namespace Go.Proofs.Ytfnlgihkofkibaa
set_option maxRecDepth 100000
open Go.ChangeShapes Go.WideShapes Go.ChangeAt Go.RowKit
set_option linter.unusedVariables false

theorem txNames_law {H : Type} {enc : TypeId × Value → H} {base : Nat} (W : World) (v0 v1 : Value) (d0 d1 : DataW H) (p0 p1 : List MemPlace)
    (o0 : Value.okWide Try.prog W .any base 29 v0) (h0 : DataW.Trod enc Try.prog W 0 (fun _ => true) true 29 v0 d0 p0)
    (o1 : Value.okWide Try.prog W .any base 29 v1) (h1 : DataW.Trod enc Try.prog W 0 (fun _ => true) true 29 v1 d1 p1)
    (hsz : (DataW.weightsEach Try.prog [29, 29] [d0, d1]).all (· ≤ reachBytes) = true) :
    Calls Try.prog 8 #[v0, v1] W (LawEnd W) := by
  obtain ⟨t0, ins0, outs0, nulls0, notes0, rfl, hT0⟩ := open_tx o0 h0
  obtain ⟨t1, ins1, outs1, nulls1, notes1, rfl, hT1⟩ := open_tx o1 h1
  exact txNames_walk t0 t1 _ _ W (TxL.of hT0) (TxL.of hT1)

end Go.Proofs.Ytfnlgihkofkibaa
