/- From the readings of the arguments to the walks. -/
import Derived.Test.YtghjpbmemogioaaLawEnd
import Derived.Test.YtghjpbmemogioaaMoneyParts
import Derived.Test.YtghjpbmemogioaaOpenInts
import Derived.ProofKit
import Derived.OpenShut
namespace Go.Proofs.Ytghjpbmemogioaa
open Go.ChangeShapes Go.WideShapes Go.ChangeAt Go.RowKit
set_option linter.unusedVariables false

theorem moneyParts_law {H : Type} {enc : TypeId × Value → H} {base : Nat} (W : World) (v0 v1 : Value) (d0 d1 : DataW H) (p0 p1 : List MemPlace)
    (o0 : Value.okWide Try.prog W .any base 22 v0) (h0 : DataW.Trod enc Try.prog W 0 (fun _ => true) true 22 v0 d0 p0)
    (o1 : Value.okWide Try.prog W .any base 22 v1) (h1 : DataW.Trod enc Try.prog W 0 (fun _ => true) true 22 v1 d1 p1)
    (hsz : (DataW.weightsEach Try.prog [22, 22] [d0, d1]).all (· ≤ reachBytes) = true) :
    Calls Try.prog 4 #[v0, v1] W (LawEnd W) := by
  obtain ⟨s0, l0, c0, x0, rfl, hS0⟩ := open_i64s o0 h0
  obtain ⟨s1, l1, c1, x1, rfl, hS1⟩ := open_i64s o1 h1
  exact moneyParts_walk s0 s1 l0 c0 l1 c1 x0 x1 W hS0 hS1

theorem moneyBack_law {H : Type} {enc : TypeId × Value → H} {base : Nat} (W : World) (v0 v1 v2 : Value) (d0 d1 d2 : DataW H) (p0 p1 p2 : List MemPlace)
    (o0 : Value.okWide Try.prog W .any base 2 v0) (h0 : DataW.Trod enc Try.prog W 0 (fun _ => true) true 2 v0 d0 p0)
    (o1 : Value.okWide Try.prog W .any base 2 v1) (h1 : DataW.Trod enc Try.prog W 0 (fun _ => true) true 2 v1 d1 p1)
    (o2 : Value.okWide Try.prog W .any base 22 v2) (h2 : DataW.Trod enc Try.prog W 0 (fun _ => true) true 22 v2 d2 p2)
    (hsz : (DataW.weightsEach Try.prog [2, 2, 22] [d0, d1, d2]).all (· ≤ reachBytes) = true) :
    Calls Try.prog 3 #[v0, v1, v2] W (LawEnd W) := by
  obtain ⟨a0, rfl, rfl, rfl, w0⟩ := open_int Try.underlying2 o0 h0
  have b0 := bounds_i64 w0
  obtain ⟨a1, rfl, rfl, rfl, w1⟩ := open_int Try.underlying2 o1 h1
  have b1 := bounds_i64 w1
  obtain ⟨s2, l2, c2, x2, rfl, hS2⟩ := open_i64s o2 h2
  exact moneyBack_walk a0 a1 s2 l2 c2 x2 W ⟨b0.1, b0.2⟩ ⟨b1.1, b1.2⟩ hS2

end Go.Proofs.Ytghjpbmemogioaa
