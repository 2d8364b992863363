/- From the readings of the arguments to the walks. -/
import Derived.Test.YtajoeleepdnifaaLawEnd
import Derived.Test.YtajoeleepdnifaaShaBlocks
import Derived.ProofKit
import Derived.OpenShut
namespace Go.Proofs.Ytajoeleepdnifaa
set_option maxRecDepth 100000
open Go.ChangeShapes Go.WideShapes Go.ChangeAt Go.RowKit
set_option linter.unusedVariables false

theorem shaBlocks_law {H : Type} {enc : TypeId × Value → H} {base : Nat} (W : World) (v0 v1 : Value) (d0 d1 : DataW H) (p0 p1 : List MemPlace)
    (o0 : Value.okWide Try.prog W .any base 46 v0) (h0 : DataW.Trod enc Try.prog W 0 (fun _ => true) true 46 v0 d0 p0)
    (o1 : Value.okWide Try.prog W .any base 5 v1) (h1 : DataW.Trod enc Try.prog W 0 (fun _ => true) true 5 v1 d1 p1)
    (hsz : (DataW.weightsEach Try.prog [46, 5] [d0, d1]).all (· ≤ reachBytes) = true) :
    Calls Try.prog 11 #[v0, v1] W (LawEnd W) := by
  obtain ⟨a0, rfl, rfl, rfl, w0⟩ := open_int Try.underlying46 o0 h0
  have b0 := bounds_u16 w0
  obtain ⟨a1, rfl, rfl, rfl, w1⟩ := open_int Try.underlying5 o1 h1
  have b1 := bounds_u8 w1
  exact (by obtain ⟨m, rfl⟩ : ∃ m : Nat, a0 = m := ⟨a0.toNat, by omega⟩; obtain ⟨c, rfl⟩ : ∃ c : UInt8, a1 = (c.toNat : Int) := ⟨UInt8.ofNat a1.toNat, by simp; omega⟩; exact shaBlocks_walk m c W (by omega))

end Go.Proofs.Ytajoeleepdnifaa
