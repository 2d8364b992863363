/- From the readings of the arguments to the walks. -/
import Derived.Test.YtajoeleepdnifaaLawEnd
import Derived.Test.YtajoeleepdnifaaCodecTells
import Derived.Test.YtajoeleepdnifaaOpenKey1
import Derived.ProofKit
import Derived.OpenShut
namespace Go.Proofs.Ytajoeleepdnifaa
open Go.ChangeShapes Go.WideShapes Go.ChangeAt Go.RowKit
open Go.ChangeMaps (open_string)
set_option linter.unusedVariables false

theorem codecTells_law {H : Type} {enc : TypeId × Value → H} {base : Nat} (W : World) (v0 v1 v2 v3 : Value) (d0 d1 d2 d3 : DataW H) (p0 p1 p2 p3 : List MemPlace)
    (o0 : Value.okWide Try.prog W .any base 23 v0) (h0 : DataW.Trod enc Try.prog W 0 (fun _ => true) true 23 v0 d0 p0)
    (o1 : Value.okWide Try.prog W .any base 3 v1) (h1 : DataW.Trod enc Try.prog W 0 (fun _ => true) true 3 v1 d1 p1)
    (o2 : Value.okWide Try.prog W .any base 9 v2) (h2 : DataW.Trod enc Try.prog W 0 (fun _ => true) true 9 v2 d2 p2)
    (o3 : Value.okWide Try.prog W .any base 35 v3) (h3 : DataW.Trod enc Try.prog W 0 (fun _ => true) true 35 v3 d3 p3)
    (hsz : (DataW.weightsEach Try.prog [23, 3, 9, 35] [d0, d1, d2, d3]).all (· ≤ reachBytes) = true) :
    Calls Try.prog 7 #[v0, v1, v2, v3] W (LawEnd W) := by
  obtain ⟨a0, rfl, rfl, rfl, w0⟩ := open_int Try.underlying23 o0 h0
  have b0 := bounds_u64 w0
  obtain ⟨a1, rfl, rfl, rfl, w1⟩ := open_int Try.underlying3 o1 h1
  have b1 := bounds_i64 w1
  obtain ⟨s2, rfl, rfl, rfl, hs2⟩ := open_string Try.underlying9 o2 h2
  obtain ⟨k3, rfl⟩ := open_key' o3 h3
  exact (by obtain ⟨A0, rfl⟩ : ∃ A : Nat, a0 = (A : Int) := ⟨a0.toNat, by have := b0.1; omega⟩; rw [← sB_data s2]; exact codecTells_walk A0 a1 _ k3 W (by have := b0.2; omega))

end Go.Proofs.Ytajoeleepdnifaa
