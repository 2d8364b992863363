/- From the readings of the arguments to the walks. -/
import Derived.Test.YtpgaibihfplhcaaLawEnd
import Derived.Test.YtpgaibihfplhcaaOracleGood
import Derived.Test.YtpgaibihfplhcaaOpenVerd
import Derived.ProofKit
import Derived.OpenShut
namespace Go.Proofs.Ytpgaibihfplhcaa
open Go.ChangeShapes Go.WideShapes Go.ChangeAt Go.RowKit
set_option linter.unusedVariables false

theorem oracleGood_law {H : Type} {enc : TypeId × Value → H} {base : Nat} (W : World) (v0 v1 v2 v3 : Value) (d0 d1 d2 d3 : DataW H) (p0 p1 p2 p3 : List MemPlace)
    (o0 : Value.okWide Try.prog W .any base 36 v0) (h0 : DataW.Trod enc Try.prog W 0 (fun _ => true) true 36 v0 d0 p0)
    (o1 : Value.okWide Try.prog W .any base 23 v1) (h1 : DataW.Trod enc Try.prog W 0 (fun _ => true) true 23 v1 d1 p1)
    (o2 : Value.okWide Try.prog W .any base 5 v2) (h2 : DataW.Trod enc Try.prog W 0 (fun _ => true) true 5 v2 d2 p2)
    (o3 : Value.okWide Try.prog W .any base 5 v3) (h3 : DataW.Trod enc Try.prog W 0 (fun _ => true) true 5 v3 d3 p3)
    (hsz : (DataW.weightsEach Try.prog [36, 23, 5, 5] [d0, d1, d2, d3]).all (· ≤ reachBytes) = true) :
    Calls Try.prog 6 #[v0, v1, v2, v3] W (LawEnd W) := by
  obtain ⟨s0, l0, c0, x0, rfl, hS0⟩ := open_verdicts o0 h0
  obtain ⟨k1, rfl⟩ := open_key' o1 h1
  obtain ⟨a2, rfl, rfl, rfl, w2⟩ := open_int Try.underlying5 o2 h2
  have b2 := bounds_u8 w2
  obtain ⟨a3, rfl, rfl, rfl, w3⟩ := open_int Try.underlying5 o3 h3
  have b3 := bounds_u8 w3
  exact (by obtain ⟨A2, rfl⟩ : ∃ A : Nat, a2 = (A : Int) := ⟨a2.toNat, by have := b2.1; omega⟩; obtain ⟨A3, rfl⟩ : ∃ A : Nat, a3 = (A : Int) := ⟨a3.toNat, by have := b3.1; omega⟩; exact oracleGood_walk s0 l0 c0 x0 k1 A2 A3 W hS0 (by have := b2.2; omega) (by have := b3.2; omega))

end Go.Proofs.Ytpgaibihfplhcaa
