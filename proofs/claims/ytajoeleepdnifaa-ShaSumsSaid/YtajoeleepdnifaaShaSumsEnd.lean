/- From the readings of the arguments to the walks. -/
import Derived.Test.YtajoeleepdnifaaLawEnd
import Derived.Test.YtajoeleepdnifaaShaSums
import Derived.Test.YtajoeleepdnifaaOpenKey
import Derived.Test.YtajoeleepdnifaaOpenKey1
import Derived.ProofKit
import Derived.OpenShut
namespace Go.Proofs.Ytajoeleepdnifaa
set_option maxRecDepth 100000
open Go.ChangeShapes Go.WideShapes Go.ChangeAt Go.RowKit
open Go.ChangeMaps (open_string)
set_option linter.unusedVariables false

theorem shaSums_law {H : Type} {enc : TypeId × Value → H} {base : Nat} (W : World) (v0 v1 v2 : Value) (d0 d1 d2 : DataW H) (p0 p1 p2 : List MemPlace)
    (o0 : Value.okWide Try.prog W .any base 9 v0) (h0 : DataW.Trod enc Try.prog W 0 (fun _ => true) true 9 v0 d0 p0)
    (o1 : Value.okWide Try.prog W .any base 35 v1) (h1 : DataW.Trod enc Try.prog W 0 (fun _ => true) true 35 v1 d1 p1)
    (o2 : Value.okWide Try.prog W .any base 35 v2) (h2 : DataW.Trod enc Try.prog W 0 (fun _ => true) true 35 v2 d2 p2)
    (hsz : (DataW.weightsEach Try.prog [9, 35, 35] [d0, d1, d2]).all (· ≤ reachBytes) = true) :
    Calls Try.prog 13 #[v0, v1, v2] W (LawEnd W) := by
  obtain ⟨s0, rfl, rfl, rfl, hs0⟩ := open_string Try.underlying9 o0 h0
  obtain ⟨k1, rfl⟩ := open_key' o1 h1
  obtain ⟨k2, rfl⟩ := open_key' o2 h2
  exact (by rw [← sB_whole s0]; exact shaSums_walk _ k1 k2 W)

end Go.Proofs.Ytajoeleepdnifaa
