/- From the readings of the arguments to the walks. -/
import Derived.Test.YtahkiabpjfcfdaaLawEnd
import Derived.Test.YtahkiabpjfcfdaaCostLeast
import Derived.Test.YtahkiabpjfcfdaaOpenTx
import Derived.ProofKit
import Derived.OpenShut
namespace Go.Proofs.Ytahkiabpjfcfdaa
set_option maxRecDepth 100000
open Go.ChangeShapes Go.WideShapes Go.ChangeAt Go.RowKit
set_option linter.unusedVariables false

theorem costLeast_law {H : Type} {enc : TypeId × Value → H} {base : Nat} (W : World) (v0 v1 v2 : Value) (d0 d1 d2 : DataW H) (p0 p1 p2 : List MemPlace)
    (o0 : Value.okWide Try.prog W .any base 41 v0) (h0 : DataW.Trod enc Try.prog W 0 (fun _ => true) true 41 v0 d0 p0)
    (o1 : Value.okWide Try.prog W .any base 2 v1) (h1 : DataW.Trod enc Try.prog W 0 (fun _ => true) true 2 v1 d1 p1)
    (o2 : Value.okWide Try.prog W .any base 2 v2) (h2 : DataW.Trod enc Try.prog W 0 (fun _ => true) true 2 v2 d2 p2)
    (hsz : (DataW.weightsEach Try.prog [41, 2, 2] [d0, d1, d2]).all (· ≤ reachBytes) = true) :
    Calls Try.prog 7 #[v0, v1, v2] W (LawEnd W) := by
  obtain ⟨t0, ins0, outs0, nulls0, notes0, rfl, hT0⟩ := open_tx o0 h0
  obtain ⟨a1, rfl, rfl, rfl, w1⟩ := open_int Try.underlying2 o1 h1
  have b1 := bounds_i64 w1
  obtain ⟨a2, rfl, rfl, rfl, w2⟩ := open_int Try.underlying2 o2 h2
  have b2 := bounds_i64 w2
  exact costLeast_walk t0 _ a1 a2 W (TxL.of hT0)

end Go.Proofs.Ytahkiabpjfcfdaa
