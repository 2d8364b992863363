/- From the readings of the arguments to the walks. -/
import Derived.Test.YtahkiabpjfcfdaaBase2
import Derived.Test.YtahkiabpjfcfdaaBlkBack
import Derived.Test.YtahkiabpjfcfdaaOpenBlk
import Derived.ProofKit
import Derived.OpenShut
namespace Go.Proofs.Ytahkiabpjfcfdaa
set_option maxRecDepth 100000
open Go.ChangeShapes Go.WideShapes Go.ChangeAt Go.RowKit
set_option linter.unusedVariables false

theorem blockBack_law {H : Type} {enc : TypeId × Value → H} {base : Nat} (W : World) (v0 v1 : Value) (d0 d1 : DataW H) (p0 p1 : List MemPlace)
    (o0 : Value.okWide Try.prog W .any base 50 v0) (h0 : DataW.Trod enc Try.prog W 0 (fun _ => true) true 50 v0 d0 p0)
    (o1 : Value.okWide Try.prog W .any base 31 v1) (h1 : DataW.Trod enc Try.prog W 0 (fun _ => true) true 31 v1 d1 p1)
    (hsz : (DataW.weightsEach Try.prog [50, 31] [d0, d1]).all (· ≤ reachBytes) = true) :
    Calls Try.prog 11 #[v0, v1] W (LawEnd W) := by
  obtain ⟨b, qs, d, rfl, hB⟩ := open_blk o0 h0
  obtain ⟨a1, rfl, rfl, rfl, w1⟩ := open_int Try.underlying31 o1 h1
  have b1 := bounds_u16 w1
  obtain ⟨k, rfl⟩ := Int.eq_ofNat_of_zero_le b1.1
  exact blockBack_walk b qs d k W hB (by omega)

end Go.Proofs.Ytahkiabpjfcfdaa
