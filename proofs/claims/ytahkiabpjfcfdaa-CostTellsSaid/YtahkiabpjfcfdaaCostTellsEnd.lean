/- From the readings of the arguments to the walks. -/
import Derived.Test.YtahkiabpjfcfdaaLawEnd
import Derived.Test.YtahkiabpjfcfdaaCostTells
import Derived.Test.YtahkiabpjfcfdaaOpenTx
import Derived.Test.YtahkiabpjfcfdaaOpenInts2
import Derived.ProofKit
import Derived.OpenShut
namespace Go.Proofs.Ytahkiabpjfcfdaa
set_option maxRecDepth 100000
open Go.ChangeShapes Go.WideShapes Go.ChangeAt Go.RowKit
set_option linter.unusedVariables false

theorem costTells_law {H : Type} {enc : TypeId × Value → H} {base : Nat} (W : World) (v0 v1 v2 v3 : Value) (d0 d1 d2 d3 : DataW H) (p0 p1 p2 p3 : List MemPlace)
    (o0 : Value.okWide Try.prog W .any base 41 v0) (h0 : DataW.Trod enc Try.prog W 0 (fun _ => true) true 41 v0 d0 p0)
    (o1 : Value.okWide Try.prog W .any base 2 v1) (h1 : DataW.Trod enc Try.prog W 0 (fun _ => true) true 2 v1 d1 p1)
    (o2 : Value.okWide Try.prog W .any base 25 v2) (h2 : DataW.Trod enc Try.prog W 0 (fun _ => true) true 25 v2 d2 p2)
    (o3 : Value.okWide Try.prog W .any base 23 v3) (h3 : DataW.Trod enc Try.prog W 0 (fun _ => true) true 23 v3 d3 p3)
    (hsz : (DataW.weightsEach Try.prog [41, 2, 25, 23] [d0, d1, d2, d3]).all (· ≤ reachBytes) = true) :
    Calls Try.prog 6 #[v0, v1, v2, v3] W (LawEnd W) := by
  obtain ⟨t0, ins0, outs0, nulls0, notes0, rfl, hT0⟩ := open_tx o0 h0
  obtain ⟨a1, rfl, rfl, rfl, w1⟩ := open_int Try.underlying2 o1 h1
  have b1 := bounds_i64 w1
  obtain ⟨s2, l2, c2, x2, rfl, hS2⟩ := open_i64s o2 h2
  obtain ⟨a3, rfl, rfl, rfl, w3⟩ := open_int Try.underlying23 o3 h3
  have b3 := bounds_u64 w3
  obtain ⟨u, rfl⟩ : ∃ u : Nat, a3 = u := ⟨a3.toNat, by omega⟩
  exact costTells_walk t0 _ a1 s2 l2 c2 x2 u (by omega) W (TxL.of hT0) hS2

end Go.Proofs.Ytahkiabpjfcfdaa
