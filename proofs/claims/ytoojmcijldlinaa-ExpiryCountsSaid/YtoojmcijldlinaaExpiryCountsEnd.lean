/- ExpiryCounts: from the readings of the arguments to the walk. -/
import Derived.Test.YtoojmcijldlinaaLawEnd
import Derived.Test.YtoojmcijldlinaaExpiryCountsWalk
import Derived.ProofKit
import Derived.OpenShut
namespace Go.Proofs.Ytoojmcijldlinaa
open Go.ChangeShapes Go.WideShapes Go.ChangeAt Go.RowKit

theorem expiryCounts_law {H : Type} {enc : TypeId × Value → H} {base : Nat} (W : World) (v0 v1 : Value) (d0 d1 : DataW H) (p0 p1 : List MemPlace)
    (o0 : Value.okWide Try.prog W .any base 22 v0) (h0 : DataW.Trod enc Try.prog W 0 (fun _ => true) true 22 v0 d0 p0)
    (o1 : Value.okWide Try.prog W .any base 22 v1) (h1 : DataW.Trod enc Try.prog W 0 (fun _ => true) true 22 v1 d1 p1)
    (_ : (DataW.weightsEach Try.prog [22, 22] [d0, d1]).all (· ≤ reachBytes) = true) :
    Calls Try.prog 3 #[v0, v1] W (LawEnd W) := by
  obtain ⟨a, rfl, rfl, rfl, wa⟩ := open_int Try.underlying22 o0 h0
  obtain ⟨b, rfl, rfl, rfl, wb⟩ := open_int Try.underlying22 o1 h1
  have ba := bounds_u16 wa
  have bb := bounds_u16 wb
  refine (expiryCounts_walk a b W ba.1 ba.2 bb.1 bb.2).mono ?_
  rintro e w' ⟨rfl, rfl⟩
  exact ⟨rfl, Below.refl _ _⟩

end Go.Proofs.Ytoojmcijldlinaa
