/- From the readings of the arguments to the walks. -/
import Derived.Test.YtabikhmaiennpaaLawEnd
import Derived.Test.YtabikhmaiennpaaTreeEmpty
import Derived.ProofKit
import Derived.OpenShut
namespace Go.Proofs.Ytabikhmaiennpaa
set_option maxRecDepth 100000
open Go.ChangeShapes Go.WideShapes Go.ChangeAt Go.RowKit
set_option linter.unusedVariables false

theorem treeEmpty_law {H : Type} {enc : TypeId × Value → H} {base : Nat} (W : World) (v0 : Value) (d0 : DataW H) (p0 : List MemPlace)
    (o0 : Value.okWide Try.prog W .any base 5 v0) (h0 : DataW.Trod enc Try.prog W 0 (fun _ => true) true 5 v0 d0 p0)
    (hsz : (DataW.weightsEach Try.prog [5] [d0]).all (· ≤ reachBytes) = true) :
    Calls Try.prog 7 #[v0] W (LawEnd W) := by
  obtain ⟨a1, rfl, rfl, rfl, w1⟩ := open_int Try.underlying5 o0 h0
  have b1 := bounds_u8 w1
  obtain ⟨k, rfl⟩ := Int.eq_ofNat_of_zero_le b1.1
  exact treeEmpty_walk k (by omega) W

end Go.Proofs.Ytabikhmaiennpaa
