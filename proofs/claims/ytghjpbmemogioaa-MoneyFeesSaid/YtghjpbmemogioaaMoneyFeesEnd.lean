/- From the readings of the arguments to the walks. -/
import Derived.Test.YtghjpbmemogioaaLawEnd
import Derived.Test.YtghjpbmemogioaaMoneyFees
import Derived.ProofKit
import Derived.OpenShut
namespace Go.Proofs.Ytghjpbmemogioaa
open Go.ChangeShapes Go.WideShapes Go.ChangeAt Go.RowKit
set_option linter.unusedVariables false

theorem moneyFees_law {H : Type} {enc : TypeId × Value → H} {base : Nat} (W : World) (v0 v1 v2 : Value) (d0 d1 d2 : DataW H) (p0 p1 p2 : List MemPlace)
    (o0 : Value.okWide Try.prog W .any base 31 v0) (h0 : DataW.Trod enc Try.prog W 0 (fun _ => true) true 31 v0 d0 p0)
    (o1 : Value.okWide Try.prog W .any base 31 v1) (h1 : DataW.Trod enc Try.prog W 0 (fun _ => true) true 31 v1 d1 p1)
    (o2 : Value.okWide Try.prog W .any base 21 v2) (h2 : DataW.Trod enc Try.prog W 0 (fun _ => true) true 21 v2 d2 p2)
    (hsz : (DataW.weightsEach Try.prog [31, 31, 21] [d0, d1, d2]).all (· ≤ reachBytes) = true) :
    Calls Try.prog 6 #[v0, v1, v2] W (LawEnd W) := by
  obtain ⟨s0, l0, c0, x0, rfl, hS0⟩ := open_u32s o0 h0
  obtain ⟨s1, l1, c1, x1, rfl, hS1⟩ := open_u32s o1 h1
  obtain ⟨a2, rfl, rfl, rfl, w2⟩ := open_int Try.underlying21 o2 h2
  have b2 := bounds_i32 w2
  exact moneyFees_walk s0 s1 l0 c0 l1 c1 x0 x1 a2 W b2.1 b2.2 hS0 hS1

end Go.Proofs.Ytghjpbmemogioaa
