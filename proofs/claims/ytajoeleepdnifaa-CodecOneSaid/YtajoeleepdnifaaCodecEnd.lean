/- From the readings of the arguments to the walks. -/
import Derived.Test.YtajoeleepdnifaaLawEnd
import Derived.Test.YtajoeleepdnifaaCodecOne
import Derived.Test.YtajoeleepdnifaaCodecParts
import Derived.ProofKit
import Derived.OpenShut
namespace Go.Proofs.Ytajoeleepdnifaa
open Go.ChangeShapes Go.WideShapes Go.ChangeAt Go.RowKit
open Go.ChangeMaps (open_string)
set_option linter.unusedVariables false

theorem codecSizes_law {H : Type} {enc : TypeId × Value → H} {base : Nat} (W : World) (v0 v1 : Value) (d0 d1 : DataW H) (p0 p1 : List MemPlace)
    (o0 : Value.okWide Try.prog W .any base 23 v0) (h0 : DataW.Trod enc Try.prog W 0 (fun _ => true) true 23 v0 d0 p0)
    (o1 : Value.okWide Try.prog W .any base 23 v1) (h1 : DataW.Trod enc Try.prog W 0 (fun _ => true) true 23 v1 d1 p1)
    (hsz : (DataW.weightsEach Try.prog [23, 23] [d0, d1]).all (· ≤ reachBytes) = true) :
    Calls Try.prog 4 #[v0, v1] W (LawEnd W) := by
  obtain ⟨a0, rfl, rfl, rfl, w0⟩ := open_int Try.underlying23 o0 h0
  have b0 := bounds_u64 w0
  obtain ⟨a1, rfl, rfl, rfl, w1⟩ := open_int Try.underlying23 o1 h1
  have b1 := bounds_u64 w1
  exact (by obtain ⟨A0, rfl⟩ : ∃ A : Nat, a0 = (A : Int) := ⟨a0.toNat, by have := b0.1; omega⟩; obtain ⟨A1, rfl⟩ : ∃ A : Nat, a1 = (A : Int) := ⟨a1.toNat, by have := b1.1; omega⟩; exact codecSizes_walk A0 A1 W (by have := b0.2; omega) (by have := b1.2; omega))

theorem codecParts_law {H : Type} {enc : TypeId × Value → H} {base : Nat} (W : World) (v0 v1 : Value) (d0 d1 : DataW H) (p0 p1 : List MemPlace)
    (o0 : Value.okWide Try.prog W .any base 23 v0) (h0 : DataW.Trod enc Try.prog W 0 (fun _ => true) true 23 v0 d0 p0)
    (o1 : Value.okWide Try.prog W .any base 5 v1) (h1 : DataW.Trod enc Try.prog W 0 (fun _ => true) true 5 v1 d1 p1)
    (hsz : (DataW.weightsEach Try.prog [23, 5] [d0, d1]).all (· ≤ reachBytes) = true) :
    Calls Try.prog 5 #[v0, v1] W (LawEnd W) := by
  obtain ⟨a0, rfl, rfl, rfl, w0⟩ := open_int Try.underlying23 o0 h0
  have b0 := bounds_u64 w0
  obtain ⟨a1, rfl, rfl, rfl, w1⟩ := open_int Try.underlying5 o1 h1
  have b1 := bounds_u8 w1
  exact (by obtain ⟨A0, rfl⟩ : ∃ A : Nat, a0 = (A : Int) := ⟨a0.toNat, by have := b0.1; omega⟩; obtain ⟨A1, rfl⟩ : ∃ A : Nat, a1 = (A : Int) := ⟨a1.toNat, by have := b1.1; omega⟩; exact codecParts_walk A0 A1 W (by have := b0.2; omega) (by have := b1.2; omega))

theorem codecLong_law {H : Type} {enc : TypeId × Value → H} {base : Nat} (W : World) (v0 v1 : Value) (d0 d1 : DataW H) (p0 p1 : List MemPlace)
    (o0 : Value.okWide Try.prog W .any base 32 v0) (h0 : DataW.Trod enc Try.prog W 0 (fun _ => true) true 32 v0 d0 p0)
    (o1 : Value.okWide Try.prog W .any base 9 v1) (h1 : DataW.Trod enc Try.prog W 0 (fun _ => true) true 9 v1 d1 p1)
    (hsz : (DataW.weightsEach Try.prog [32, 9] [d0, d1]).all (· ≤ reachBytes) = true) :
    Calls Try.prog 6 #[v0, v1] W (LawEnd W) := by
  obtain ⟨a0, rfl, rfl, rfl, w0⟩ := open_int Try.underlying32 o0 h0
  have b0 := bounds_u32 w0
  obtain ⟨s1, rfl, rfl, rfl, hs1⟩ := open_string Try.underlying9 o1 h1
  exact (by obtain ⟨A0, rfl⟩ : ∃ A : Nat, a0 = (A : Int) := ⟨a0.toNat, by have := b0.1; omega⟩; rw [← sB_data s1]; exact codecLong_walk A0 _ W (by have := b0.2; omega))

theorem codecOne_law {H : Type} {enc : TypeId × Value → H} {base : Nat} (W : World) (v0 : Value) (d0 : DataW H) (p0 : List MemPlace)
    (o0 : Value.okWide Try.prog W .any base 9 v0) (h0 : DataW.Trod enc Try.prog W 0 (fun _ => true) true 9 v0 d0 p0)
    (hsz : (DataW.weightsEach Try.prog [9] [d0]).all (· ≤ reachBytes) = true) :
    Calls Try.prog 3 #[v0] W (LawEnd W) := by
  obtain ⟨s0, rfl, rfl, rfl, hs0⟩ := open_string Try.underlying9 o0 h0
  exact (by rw [← sB_data s0]; exact codecOne_walk _ W)

end Go.Proofs.Ytajoeleepdnifaa
