/- From the readings of the arguments to the walks. -/
import Derived.Test.YtpgaibihfplhcaaLawEnd
import Derived.Test.YtpgaibihfplhcaaAnchorBack
import Derived.Test.YtpgaibihfplhcaaOpenKeys
import Derived.ProofKit
import Derived.OpenShut
namespace Go.Proofs.Ytpgaibihfplhcaa
open Go.ChangeShapes Go.WideShapes Go.ChangeAt Go.RowKit
set_option linter.unusedVariables false

theorem anchorBack_law {H : Type} {enc : TypeId × Value → H} {base : Nat} (W : World) (v0 v1 v2 : Value) (d0 d1 d2 : DataW H) (p0 p1 p2 : List MemPlace)
    (o0 : Value.okWide Try.prog W .any base 23 v0) (h0 : DataW.Trod enc Try.prog W 0 (fun _ => true) true 23 v0 d0 p0)
    (o1 : Value.okWide Try.prog W .any base 24 v1) (h1 : DataW.Trod enc Try.prog W 0 (fun _ => true) true 24 v1 d1 p1)
    (o2 : Value.okWide Try.prog W .any base 5 v2) (h2 : DataW.Trod enc Try.prog W 0 (fun _ => true) true 5 v2 d2 p2)
    (hsz : (DataW.weightsEach Try.prog [23, 24, 5] [d0, d1, d2]).all (· ≤ reachBytes) = true) :
    Calls Try.prog 10 #[v0, v1, v2] W (LawEnd W) := by
  obtain ⟨k0, rfl⟩ := open_key' o0 h0
  obtain ⟨s1, l1, c1, x1, rfl, hS1⟩ := open_keys o1 h1
  obtain ⟨a2, rfl, rfl, rfl, w2⟩ := open_int Try.underlying5 o2 h2
  have b2 := bounds_u8 w2
  exact (by obtain ⟨G, rfl⟩ : ∃ G : Nat, a2 = (G : Int) := ⟨a2.toNat, by have := b2.1; omega⟩; exact anchorBack_walk k0 s1 l1 c1 x1 G (by have := b2.2; omega) W hS1)

end Go.Proofs.Ytpgaibihfplhcaa
