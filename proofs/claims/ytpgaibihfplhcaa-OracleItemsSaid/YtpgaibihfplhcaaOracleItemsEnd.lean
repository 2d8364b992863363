/- From the readings of the arguments to the walks. -/
import Derived.Test.YtpgaibihfplhcaaLawEnd
import Derived.Test.YtpgaibihfplhcaaOracleItems
import Derived.Test.YtpgaibihfplhcaaOpenTxSz
import Derived.Test.YtpgaibihfplhcaaOpenVerd
import Derived.ProofKit
import Derived.OpenShut
namespace Go.Proofs.Ytpgaibihfplhcaa
open Go.ChangeShapes Go.WideShapes Go.ChangeAt Go.RowKit
set_option linter.unusedVariables false

theorem oracleItems_law {H : Type} {enc : TypeId × Value → H} {base : Nat} (W : World) (v0 v1 v2 v3 : Value) (d0 d1 d2 d3 : DataW H) (p0 p1 p2 p3 : List MemPlace)
    (o0 : Value.okWide Try.prog W .any base 47 v0) (h0 : DataW.Trod enc Try.prog W 0 (fun _ => true) true 47 v0 d0 p0)
    (o1 : Value.okWide Try.prog W .any base 36 v1) (h1 : DataW.Trod enc Try.prog W 0 (fun _ => true) true 36 v1 d1 p1)
    (o2 : Value.okWide Try.prog W .any base 23 v2) (h2 : DataW.Trod enc Try.prog W 0 (fun _ => true) true 23 v2 d2 p2)
    (o3 : Value.okWide Try.prog W .any base 55 v3) (h3 : DataW.Trod enc Try.prog W 0 (fun _ => true) true 55 v3 d3 p3)
    (hsz : (DataW.weightsEach Try.prog [47, 36, 23, 55] [d0, d1, d2, d3]).all (· ≤ reachBytes) = true) :
    Calls Try.prog 9 #[v0, v1, v2, v3] W (LawEnd W) := by
  obtain ⟨t0, ins0, outs0, nulls0, notes0, rfl, hT0, z1, z2, z3, z4⟩ := open_tx_sized (ts := [47, 36, 23, 55]) (ds := [d0, d1, d2, d3]) o0 h0 hsz (j := 0) rfl rfl
  obtain ⟨s1, l1, c1, x1, rfl, hS1⟩ := open_verdicts o1 h1
  obtain ⟨k2, rfl⟩ := open_key' o2 h2
  obtain ⟨a3, rfl, rfl, rfl, w3⟩ := open_int Try.underlying55 o3 h3
  have b3 := bounds_i8 w3
  exact (oracleItems_walk t0 s1 l1 c1 x1 k2 a3 W hS1 b3 (by unfold reachBytes at *; omega))

end Go.Proofs.Ytpgaibihfplhcaa
