/- From the readings of the arguments to the walks. -/
import Derived.Test.YtfnlgihkofkibaaLawEnd
import Derived.Test.YtfnlgihkofkibaaTxLaws
import Derived.Test.YtfnlgihkofkibaaOpenTx
import Derived.ProofKit
import Derived.OpenShut
namespace Go.Proofs.Ytfnlgihkofkibaa
set_option maxRecDepth 100000
open Go.ChangeShapes Go.WideShapes Go.ChangeAt Go.RowKit
set_option linter.unusedVariables false

theorem txSizes_law {H : Type} {enc : TypeId × Value → H} {base : Nat} (W : World) (v0 : Value) (d0 : DataW H) (p0 : List MemPlace)
    (o0 : Value.okWide Try.prog W .any base 29 v0) (h0 : DataW.Trod enc Try.prog W 0 (fun _ => true) true 29 v0 d0 p0)
    (hsz : (DataW.weightsEach Try.prog [29] [d0]).all (· ≤ reachBytes) = true) :
    Calls Try.prog 3 #[v0] W (LawEnd W) := by
  obtain ⟨t0, ins0, outs0, nulls0, notes0, rfl, hT0⟩ := open_tx o0 h0
  exact txSizes_walk t0 _ W (TxL.of hT0)

end Go.Proofs.Ytfnlgihkofkibaa
