/- From the readings of the arguments to the walks. -/
import Derived.Test.YtahkiabpjfcfdaaBase2
import Derived.Test.YtahkiabpjfcfdaaBlkMany
import Derived.ProofKit
import Derived.OpenShut
namespace Go.Proofs.Ytahkiabpjfcfdaa
set_option maxRecDepth 100000
open Go.ChangeShapes Go.WideShapes Go.ChangeAt Go.RowKit
set_option linter.unusedVariables false

theorem blockMany_law {H : Type} {enc : TypeId × Value → H} {base : Nat} (W : World) (v0 v1 : Value) (d0 d1 : DataW H) (p0 p1 : List MemPlace)
    (o0 : Value.okWide Try.prog W .any base 5 v0) (h0 : DataW.Trod enc Try.prog W 0 (fun _ => true) true 5 v0 d0 p0)
    (o1 : Value.okWide Try.prog W .any base 38 v1) (h1 : DataW.Trod enc Try.prog W 0 (fun _ => true) true 38 v1 d1 p1)
    (hsz : (DataW.weightsEach Try.prog [5, 38] [d0, d1]).all (· ≤ reachBytes) = true) :
    Calls Try.prog 13 #[v0, v1] W (LawEnd W) := by
  obtain ⟨a0, rfl, rfl, rfl, w0⟩ := open_int Try.underlying5 o0 h0
  have b0 := bounds_u8 w0
  obtain ⟨n, rfl⟩ := Int.eq_ofNat_of_zero_le b0.1
  obtain ⟨k, rfl⟩ := open_key o1 h1
  exact blockMany_walk n (by omega) k W

end Go.Proofs.Ytahkiabpjfcfdaa
