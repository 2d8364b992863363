/- From the readings of the arguments to the walks. -/
import Derived.Test.YtghjpbmemogioaaLawEnd
import Derived.Test.YtghjpbmemogioaaRecLast
import Derived.ProofKit
import Derived.OpenShut
namespace Go.Proofs.Ytghjpbmemogioaa
set_option maxRecDepth 100000
open Go.ChangeShapes Go.WideShapes Go.ChangeAt Go.RowKit
set_option linter.unusedVariables false

theorem recentLast_law {H : Type} {enc : TypeId × Value → H} {base : Nat} (W : World) (v0 v1 v2 : Value) (d0 d1 d2 : DataW H) (p0 p1 p2 : List MemPlace)
    (o0 : Value.okWide Try.prog W .any base 51 v0) (h0 : DataW.Trod enc Try.prog W 0 (fun _ => true) true 51 v0 d0 p0)
    (o1 : Value.okWide Try.prog W .any base 5 v1) (h1 : DataW.Trod enc Try.prog W 0 (fun _ => true) true 5 v1 d1 p1)
    (o2 : Value.okWide Try.prog W .any base 5 v2) (h2 : DataW.Trod enc Try.prog W 0 (fun _ => true) true 5 v2 d2 p2)
    (hsz : (DataW.weightsEach Try.prog [51, 5, 5] [d0, d1, d2]).all (· ≤ reachBytes) = true) :
    Calls Try.prog 10 #[v0, v1, v2] W (LawEnd W) := by
  obtain ⟨a, n, c, ids, rfl, hB⟩ := open_u8s o0 h0
  obtain ⟨a1, rfl, rfl, rfl, w1⟩ := open_int Try.underlying5 o1 h1
  have b1 := bounds_u8 w1
  obtain ⟨g, rfl⟩ := Int.eq_ofNat_of_zero_le b1.1
  obtain ⟨a2, rfl, rfl, rfl, w2⟩ := open_int Try.underlying5 o2 h2
  have b2 := bounds_u8 w2
  obtain ⟨k, rfl⟩ := Int.eq_ofNat_of_zero_le b2.1
  exact recentLast_walk a n c ids g k (by omega) (by omega) W hB

end Go.Proofs.Ytghjpbmemogioaa
