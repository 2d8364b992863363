/- From the readings of the arguments to the walks. -/
import Derived.Test.YtfnlgihkofkibaaLawEnd
import Derived.Test.YtfnlgihkofkibaaTxCoin
import Derived.Test.YtfnlgihkofkibaaOpenTx
import Derived.Test.YtfnlgihkofkibaaOpenPt
import Derived.ProofKit
import Derived.OpenShut
namespace Go.Proofs.Ytfnlgihkofkibaa
set_option maxRecDepth 100000
open Go.ChangeShapes Go.WideShapes Go.ChangeAt Go.RowKit
set_option linter.unusedVariables false

theorem txCoinbase_law {H : Type} {enc : TypeId × Value → H} {base : Nat} (W : World) (v0 v1 : Value) (d0 d1 : DataW H) (p0 p1 : List MemPlace)
    (o0 : Value.okWide Try.prog W .any base 29 v0) (h0 : DataW.Trod enc Try.prog W 0 (fun _ => true) true 29 v0 d0 p0)
    (o1 : Value.okWide Try.prog W .any base 36 v1) (h1 : DataW.Trod enc Try.prog W 0 (fun _ => true) true 36 v1 d1 p1)
    (hsz : (DataW.weightsEach Try.prog [29, 36] [d0, d1]).all (· ≤ reachBytes) = true) :
    Calls Try.prog 4 #[v0, v1] W (LawEnd W) := by
  obtain ⟨t0, ins0, outs0, nulls0, notes0, rfl, hT0⟩ := open_tx o0 h0
  obtain ⟨p1, rfl⟩ := open_point o1 h1
  exact txCoinbase_walk t0 _ p1 W (TxL.of hT0)

end Go.Proofs.Ytfnlgihkofkibaa
