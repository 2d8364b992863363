/- From the readings of the arguments to the walks. -/
import Derived.Test.YtahkiabpjfcfdaaLawEnd
import Derived.Test.YtahkiabpjfcfdaaCostFair
import Derived.ProofKit
import Derived.OpenShut
namespace Go.Proofs.Ytahkiabpjfcfdaa
set_option maxRecDepth 100000
open Go.ChangeShapes Go.WideShapes Go.ChangeAt Go.RowKit
set_option linter.unusedVariables false

theorem costFair_law {H : Type} {enc : TypeId × Value → H} {base : Nat} (W : World) (v0 v1 : Value) (d0 d1 : DataW H) (p0 p1 : List MemPlace)
    (o0 : Value.okWide Try.prog W .any base 22 v0) (h0 : DataW.Trod enc Try.prog W 0 (fun _ => true) true 22 v0 d0 p0)
    (o1 : Value.okWide Try.prog W .any base 23 v1) (h1 : DataW.Trod enc Try.prog W 0 (fun _ => true) true 23 v1 d1 p1)
    (hsz : (DataW.weightsEach Try.prog [22, 23] [d0, d1]).all (· ≤ reachBytes) = true) :
    Calls Try.prog 3 #[v0, v1] W (LawEnd W) := by
  obtain ⟨s0, l0, c0, x0, rfl, hS0⟩ := open_u8s o0 h0
  obtain ⟨a1, rfl, rfl, rfl, w1⟩ := open_int Try.underlying23 o1 h1
  have b1 := bounds_u64 w1
  exact (by obtain ⟨m, rfl⟩ : ∃ m : Nat, a1 = m := ⟨a1.toNat, by omega⟩; exact costFair_walk s0 l0 c0 x0 m (by omega) W hS0)

end Go.Proofs.Ytahkiabpjfcfdaa
