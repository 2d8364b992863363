/- From the readings of the arguments to the walks. -/
import Derived.Test.YtghjpbmemogioaaLawEnd
import Derived.Test.YtghjpbmemogioaaMoneyLaws
import Derived.Test.YtghjpbmemogioaaOpenInts
import Derived.ProofKit
import Derived.OpenShut
namespace Go.Proofs.Ytghjpbmemogioaa
open Go.ChangeShapes Go.WideShapes Go.ChangeAt Go.RowKit
set_option linter.unusedVariables false

theorem moneySteps_law {H : Type} {enc : TypeId × Value → H} {base : Nat} (W : World) (v0 v1 v2 : Value) (d0 d1 d2 : DataW H) (p0 p1 p2 : List MemPlace)
    (o0 : Value.okWide Try.prog W .any base 2 v0) (h0 : DataW.Trod enc Try.prog W 0 (fun _ => true) true 2 v0 d0 p0)
    (o1 : Value.okWide Try.prog W .any base 2 v1) (h1 : DataW.Trod enc Try.prog W 0 (fun _ => true) true 2 v1 d1 p1)
    (o2 : Value.okWide Try.prog W .any base 2 v2) (h2 : DataW.Trod enc Try.prog W 0 (fun _ => true) true 2 v2 d2 p2)
    (hsz : (DataW.weightsEach Try.prog [2, 2, 2] [d0, d1, d2]).all (· ≤ reachBytes) = true) :
    Calls Try.prog 5 #[v0, v1, v2] W (LawEnd W) := by
  obtain ⟨a0, rfl, rfl, rfl, w0⟩ := open_int Try.underlying2 o0 h0
  have b0 := bounds_i64 w0
  obtain ⟨a1, rfl, rfl, rfl, w1⟩ := open_int Try.underlying2 o1 h1
  have b1 := bounds_i64 w1
  obtain ⟨a2, rfl, rfl, rfl, w2⟩ := open_int Try.underlying2 o2 h2
  have b2 := bounds_i64 w2
  exact moneySteps_walk a0 a1 a2 W ⟨b0.1, b0.2⟩ ⟨b1.1, b1.2⟩ ⟨b2.1, b2.2⟩

theorem moneyTells_law {H : Type} {enc : TypeId × Value → H} {base : Nat} (W : World) (v0 v1 v2 v3 : Value) (d0 d1 d2 d3 : DataW H) (p0 p1 p2 p3 : List MemPlace)
    (o0 : Value.okWide Try.prog W .any base 2 v0) (h0 : DataW.Trod enc Try.prog W 0 (fun _ => true) true 2 v0 d0 p0)
    (o1 : Value.okWide Try.prog W .any base 2 v1) (h1 : DataW.Trod enc Try.prog W 0 (fun _ => true) true 2 v1 d1 p1)
    (o2 : Value.okWide Try.prog W .any base 22 v2) (h2 : DataW.Trod enc Try.prog W 0 (fun _ => true) true 22 v2 d2 p2)
    (o3 : Value.okWide Try.prog W .any base 22 v3) (h3 : DataW.Trod enc Try.prog W 0 (fun _ => true) true 22 v3 d3 p3)
    (hsz : (DataW.weightsEach Try.prog [2, 2, 22, 22] [d0, d1, d2, d3]).all (· ≤ reachBytes) = true) :
    Calls Try.prog 7 #[v0, v1, v2, v3] W (LawEnd W) := by
  obtain ⟨a0, rfl, rfl, rfl, w0⟩ := open_int Try.underlying2 o0 h0
  have b0 := bounds_i64 w0
  obtain ⟨a1, rfl, rfl, rfl, w1⟩ := open_int Try.underlying2 o1 h1
  have b1 := bounds_i64 w1
  obtain ⟨s2, l2, c2, x2, rfl, hS2⟩ := open_i64s o2 h2
  obtain ⟨s3, l3, c3, x3, rfl, hS3⟩ := open_i64s o3 h3
  exact moneyTells_walk a0 a1 s2 s3 l2 c2 l3 c3 x2 x3 W ⟨b0.1, b0.2⟩ ⟨b1.1, b1.2⟩ hS2 hS3

theorem moneyRange_law {H : Type} {enc : TypeId × Value → H} {base : Nat} (W : World) (v0 v1 : Value) (d0 d1 : DataW H) (p0 p1 : List MemPlace)
    (o0 : Value.okWide Try.prog W .any base 2 v0) (h0 : DataW.Trod enc Try.prog W 0 (fun _ => true) true 2 v0 d0 p0)
    (o1 : Value.okWide Try.prog W .any base 2 v1) (h1 : DataW.Trod enc Try.prog W 0 (fun _ => true) true 2 v1 d1 p1)
    (hsz : (DataW.weightsEach Try.prog [2, 2] [d0, d1]).all (· ≤ reachBytes) = true) :
    Calls Try.prog 8 #[v0, v1] W (LawEnd W) := by
  obtain ⟨a0, rfl, rfl, rfl, w0⟩ := open_int Try.underlying2 o0 h0
  have b0 := bounds_i64 w0
  obtain ⟨a1, rfl, rfl, rfl, w1⟩ := open_int Try.underlying2 o1 h1
  have b1 := bounds_i64 w1
  exact moneyRange_walk a0 a1 W ⟨b0.1, b0.2⟩ ⟨b1.1, b1.2⟩

end Go.Proofs.Ytghjpbmemogioaa
