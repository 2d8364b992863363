/- From the readings of the arguments to the walks. -/
import Derived.Test.YtpgaibihfplhcaaLawEnd
import Derived.Test.YtpgaibihfplhcaaOracleTells
import Derived.Test.YtpgaibihfplhcaaOpenTxSz
import Derived.Test.YtpgaibihfplhcaaOpenVerd
import Derived.ProofKit
import Derived.OpenShut
namespace Go.Proofs.Ytpgaibihfplhcaa
open Go.ChangeShapes Go.WideShapes Go.ChangeAt Go.RowKit
set_option linter.unusedVariables false

theorem oracleTells_law {H : Type} {enc : TypeId × Value → H} {base : Nat} (W : World) (v0 v1 v2 v3 v4 : Value) (d0 d1 d2 d3 d4 : DataW H) (p0 p1 p2 p3 p4 : List MemPlace)
    (o0 : Value.okWide Try.prog W .any base 36 v0) (h0 : DataW.Trod enc Try.prog W 0 (fun _ => true) true 36 v0 d0 p0)
    (o1 : Value.okWide Try.prog W .any base 47 v1) (h1 : DataW.Trod enc Try.prog W 0 (fun _ => true) true 47 v1 d1 p1)
    (o2 : Value.okWide Try.prog W .any base 23 v2) (h2 : DataW.Trod enc Try.prog W 0 (fun _ => true) true 23 v2 d2 p2)
    (o3 : Value.okWide Try.prog W .any base 3 v3) (h3 : DataW.Trod enc Try.prog W 0 (fun _ => true) true 3 v3 d3 p3)
    (o4 : Value.okWide Try.prog W .any base 5 v4) (h4 : DataW.Trod enc Try.prog W 0 (fun _ => true) true 5 v4 d4 p4)
    (hsz : (DataW.weightsEach Try.prog [36, 47, 23, 3, 5] [d0, d1, d2, d3, d4]).all (· ≤ reachBytes) = true) :
    Calls Try.prog 8 #[v0, v1, v2, v3, v4] W (LawEnd W) := by
  obtain ⟨s0, l0, c0, x0, rfl, hS0⟩ := open_verdicts o0 h0
  obtain ⟨t1, ins1, outs1, nulls1, notes1, rfl, hT1, z1, z2, z3, z4⟩ := open_tx_sized (ts := [36, 47, 23, 3, 5]) (ds := [d0, d1, d2, d3, d4]) o1 h1 hsz (j := 1) rfl rfl
  obtain ⟨k2, rfl⟩ := open_key' o2 h2
  obtain ⟨a3, rfl, rfl, rfl, w3⟩ := open_int Try.underlying3 o3 h3
  have b3 := bounds_i64 w3
  obtain ⟨a4, rfl, rfl, rfl, w4⟩ := open_int Try.underlying5 o4 h4
  have b4 := bounds_u8 w4
  obtain ⟨q, rfl⟩ : ∃ q : Nat, a4 = q := ⟨a4.toNat, by omega⟩
  exact (oracleTells_walk s0 l0 c0 x0 t1 k2 a3 q W hS0 (by omega) (by omega) (by unfold reachBytes at *; omega))

end Go.Proofs.Ytpgaibihfplhcaa
