/- From the readings of the arguments to the walks. -/
import Derived.Test.YtpgaibihfplhcaaLawEnd
import Derived.Test.YtpgaibihfplhcaaAnchorOld
import Derived.Test.YtpgaibihfplhcaaOpenKeys
import Derived.ProofKit
import Derived.OpenShut
namespace Go.Proofs.Ytpgaibihfplhcaa
open Go.ChangeShapes Go.WideShapes Go.ChangeAt Go.RowKit
set_option linter.unusedVariables false

theorem anchorOld_law {H : Type} {enc : TypeId × Value → H} {base : Nat} (W : World) (v0 v1 : Value) (d0 d1 : DataW H) (p0 p1 : List MemPlace)
    (o0 : Value.okWide Try.prog W .any base 23 v0) (h0 : DataW.Trod enc Try.prog W 0 (fun _ => true) true 23 v0 d0 p0)
    (o1 : Value.okWide Try.prog W .any base 24 v1) (h1 : DataW.Trod enc Try.prog W 0 (fun _ => true) true 24 v1 d1 p1)
    (hsz : (DataW.weightsEach Try.prog [23, 24] [d0, d1]).all (· ≤ reachBytes) = true) :
    Calls Try.prog 3 #[v0, v1] W (LawEnd W) := by
  obtain ⟨k0, rfl⟩ := open_key' o0 h0
  obtain ⟨s1, l1, c1, x1, rfl, hS1⟩ := open_keys o1 h1
  exact anchorOld_walk k0 s1 l1 c1 x1 W hS1

end Go.Proofs.Ytpgaibihfplhcaa
