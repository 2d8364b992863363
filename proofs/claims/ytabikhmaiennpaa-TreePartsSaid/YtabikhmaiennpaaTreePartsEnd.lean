/- From the readings of the arguments to the walks. -/
import Derived.Test.YtabikhmaiennpaaLawEnd
import Derived.Test.YtabikhmaiennpaaTreeParts
import Derived.Test.YtabikhmaiennpaaOpenKeys
import Derived.ProofKit
import Derived.OpenShut
namespace Go.Proofs.Ytabikhmaiennpaa
set_option maxRecDepth 100000
open Go.ChangeShapes Go.WideShapes Go.ChangeAt Go.RowKit
set_option linter.unusedVariables false

theorem treeParts_law {H : Type} {enc : TypeId × Value → H} {base : Nat} (W : World) (v0 v1 v2 : Value) (d0 d1 d2 : DataW H) (p0 p1 p2 : List MemPlace)
    (o0 : Value.okWide Try.prog W .any base 33 v0) (h0 : DataW.Trod enc Try.prog W 0 (fun _ => true) true 33 v0 d0 p0)
    (o1 : Value.okWide Try.prog W .any base 23 v1) (h1 : DataW.Trod enc Try.prog W 0 (fun _ => true) true 23 v1 d1 p1)
    (o2 : Value.okWide Try.prog W .any base 23 v2) (h2 : DataW.Trod enc Try.prog W 0 (fun _ => true) true 23 v2 d2 p2)
    (hsz : (DataW.weightsEach Try.prog [33, 23, 23] [d0, d1, d2]).all (· ≤ reachBytes) = true) :
    Calls Try.prog 5 #[v0, v1, v2] W (LawEnd W) := by
  obtain ⟨a, n, c, l, rfl, hS⟩ := open_keys o0 h0
  obtain ⟨ka, rfl⟩ := open_key' o1 h1
  obtain ⟨kb, rfl⟩ := open_key' o2 h2
  obtain rfl := hS.1
  exact treeParts_walk a c l ka kb W hS

end Go.Proofs.Ytabikhmaiennpaa
