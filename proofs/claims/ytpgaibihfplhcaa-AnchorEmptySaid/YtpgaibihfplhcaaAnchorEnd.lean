/- From the readings of the arguments to the walks. -/
import Derived.Test.YtpgaibihfplhcaaLawEnd
import Derived.Test.YtpgaibihfplhcaaAnchorLaws
import Derived.Test.YtpgaibihfplhcaaOpenKeys
import Derived.ProofKit
import Derived.OpenShut
namespace Go.Proofs.Ytpgaibihfplhcaa
open Go.ChangeShapes Go.WideShapes Go.ChangeAt Go.RowKit
set_option linter.unusedVariables false

theorem anchorTells_law {H : Type} {enc : TypeId × Value → H} {base : Nat} (W : World) (v0 v1 : Value) (d0 d1 : DataW H) (p0 p1 : List MemPlace)
    (o0 : Value.okWide Try.prog W .any base 24 v0) (h0 : DataW.Trod enc Try.prog W 0 (fun _ => true) true 24 v0 d0 p0)
    (o1 : Value.okWide Try.prog W .any base 23 v1) (h1 : DataW.Trod enc Try.prog W 0 (fun _ => true) true 23 v1 d1 p1)
    (hsz : (DataW.weightsEach Try.prog [24, 23] [d0, d1]).all (· ≤ reachBytes) = true) :
    Calls Try.prog 11 #[v0, v1] W (LawEnd W) := by
  obtain ⟨s0, l0, c0, x0, rfl, hS0⟩ := open_keys o0 h0
  obtain ⟨k1, rfl⟩ := open_key' o1 h1
  exact anchorTells_walk s0 l0 c0 x0 k1 W hS0

theorem anchorEmpty_law {H : Type} {enc : TypeId × Value → H} {base : Nat} (W : World) (v0 : Value) (d0 : DataW H) (p0 : List MemPlace)
    (o0 : Value.okWide Try.prog W .any base 23 v0) (h0 : DataW.Trod enc Try.prog W 0 (fun _ => true) true 23 v0 d0 p0)
    (hsz : (DataW.weightsEach Try.prog [23] [d0]).all (· ≤ reachBytes) = true) :
    Calls Try.prog 12 #[v0] W (LawEnd W) := by
  obtain ⟨k0, rfl⟩ := open_key' o0 h0
  exact anchorEmpty_walk k0 W

end Go.Proofs.Ytpgaibihfplhcaa
