/- From the readings of the arguments to the walks. -/
import Derived.Test.YtahkiabpjfcfdaaLawEnd
import Derived.Test.YtahkiabpjfcfdaaBlkSizes
import Derived.Test.YtahkiabpjfcfdaaOpenBlk
import Derived.ProofKit
import Derived.OpenShut
namespace Go.Proofs.Ytahkiabpjfcfdaa
set_option maxRecDepth 100000
open Go.ChangeShapes Go.WideShapes Go.ChangeAt Go.RowKit
set_option linter.unusedVariables false

theorem blockSizes_law {H : Type} {enc : TypeId × Value → H} {base : Nat} (W : World) (v0 : Value) (d0 : DataW H) (p0 : List MemPlace)
    (o0 : Value.okWide Try.prog W .any base 50 v0) (h0 : DataW.Trod enc Try.prog W 0 (fun _ => true) true 50 v0 d0 p0)
    (hsz : (DataW.weightsEach Try.prog [50] [d0]).all (· ≤ reachBytes) = true) :
    Calls Try.prog 8 #[v0] W (LawEnd W) := by
  obtain ⟨b, qs, d, rfl, hB⟩ := open_blk o0 h0
  exact blockSizes_walk b qs d W hB

end Go.Proofs.Ytahkiabpjfcfdaa
