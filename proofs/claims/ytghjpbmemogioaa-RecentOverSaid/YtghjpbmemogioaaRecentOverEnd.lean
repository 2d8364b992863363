/- From the readings of the arguments to the walks. -/
import Derived.Test.YtghjpbmemogioaaLawEnd
import Derived.Test.YtghjpbmemogioaaRecentOver3
import Derived.Test.YtghjpbmemogioaaOpenItem
import Derived.ProofKit
import Derived.OpenShut
namespace Go.Proofs.Ytghjpbmemogioaa
open Go.ChangeShapes Go.WideShapes Go.ChangeAt Go.RowKit
set_option linter.unusedVariables false

theorem recentOver_law {H : Type} {enc : TypeId × Value → H} {base : Nat} (W : World) (v0 v1 v2 v3 : Value) (d0 d1 d2 d3 : DataW H) (p0 p1 p2 p3 : List MemPlace)
    (o0 : Value.okWide Try.prog W .any base 38 v0) (h0 : DataW.Trod enc Try.prog W 0 (fun _ => true) true 38 v0 d0 p0)
    (o1 : Value.okWide Try.prog W .any base 41 v1) (h1 : DataW.Trod enc Try.prog W 0 (fun _ => true) true 41 v1 d1 p1)
    (o2 : Value.okWide Try.prog W .any base 41 v2) (h2 : DataW.Trod enc Try.prog W 0 (fun _ => true) true 41 v2 d2 p2)
    (o3 : Value.okWide Try.prog W .any base 40 v3) (h3 : DataW.Trod enc Try.prog W 0 (fun _ => true) true 40 v3 d3 p3)
    (hsz : (DataW.weightsEach Try.prog [38, 41, 41, 40] [d0, d1, d2, d3]).all (· ≤ reachBytes) = true) :
    Calls Try.prog 12 #[v0, v1, v2, v3] W (LawEnd W) := by
  obtain ⟨s0, l0, c0, x0, rfl, hS0, hO0⟩ := open_items o0 h0
  obtain ⟨a1, rfl, rfl, rfl, w1⟩ := open_int Try.underlying41 o1 h1
  have b1 := bounds_u64 w1
  obtain ⟨a2, rfl, rfl, rfl, w2⟩ := open_int Try.underlying41 o2 h2
  have b2 := bounds_u64 w2
  obtain ⟨k3, rfl⟩ := open_key' o3 h3
  exact recentOver_walk s0 l0 c0 x0 a1 a2 k3 W hS0 hO0 (by omega) (by omega)

end Go.Proofs.Ytghjpbmemogioaa
