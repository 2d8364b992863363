/- From the readings of the arguments to the walks. -/
import Derived.Test.YtfnlgihkofkibaaLawEnd
import Derived.Test.YtfnlgihkofkibaaTxDecodes
import Derived.Test.YtfnlgihkofkibaaTxOne
import Derived.Test.YtfnlgihkofkibaaTxBack
import Derived.Test.YtfnlgihkofkibaaOpenTx
import Derived.ProofKit
import Derived.OpenShut
namespace Go.Proofs.Ytfnlgihkofkibaa
set_option maxRecDepth 100000
open Go.ChangeShapes Go.WideShapes Go.ChangeAt Go.RowKit
open Go.ChangeMaps (open_string)
set_option linter.unusedVariables false

theorem txDecodes_law {H : Type} {enc : TypeId × Value → H} {base : Nat} (W : World) (v0 : Value) (d0 : DataW H) (p0 : List MemPlace)
    (o0 : Value.okWide Try.prog W .any base 9 v0) (h0 : DataW.Trod enc Try.prog W 0 (fun _ => true) true 9 v0 d0 p0)
    (hsz : (DataW.weightsEach Try.prog [9] [d0]).all (· ≤ reachBytes) = true) :
    Calls Try.prog 5 #[v0] W (LawEnd W) := by
  obtain ⟨s0, rfl, rfl, rfl, hs0⟩ := open_string Try.underlying9 o0 h0
  exact (by rw [← sB_whole s0]; exact txDecodes_walk _ W)

theorem txOne_law {H : Type} {enc : TypeId × Value → H} {base : Nat} (W : World) (v0 : Value) (d0 : DataW H) (p0 : List MemPlace)
    (o0 : Value.okWide Try.prog W .any base 9 v0) (h0 : DataW.Trod enc Try.prog W 0 (fun _ => true) true 9 v0 d0 p0)
    (hsz : (DataW.weightsEach Try.prog [9] [d0]).all (· ≤ reachBytes) = true) :
    Calls Try.prog 7 #[v0] W (LawEnd W) := by
  obtain ⟨s0, rfl, rfl, rfl, hs0⟩ := open_string Try.underlying9 o0 h0
  exact (by rw [← sB_whole s0]; exact txOne_walk _ W)

theorem txBack_law {H : Type} {enc : TypeId × Value → H} {base : Nat} (W : World) (v0 v1 v2 : Value) (d0 d1 d2 : DataW H) (p0 p1 p2 : List MemPlace)
    (o0 : Value.okWide Try.prog W .any base 29 v0) (h0 : DataW.Trod enc Try.prog W 0 (fun _ => true) true 29 v0 d0 p0)
    (o1 : Value.okWide Try.prog W .any base 9 v1) (h1 : DataW.Trod enc Try.prog W 0 (fun _ => true) true 9 v1 d1 p1)
    (o2 : Value.okWide Try.prog W .any base 44 v2) (h2 : DataW.Trod enc Try.prog W 0 (fun _ => true) true 44 v2 d2 p2)
    (hsz : (DataW.weightsEach Try.prog [29, 9, 44] [d0, d1, d2]).all (· ≤ reachBytes) = true) :
    Calls Try.prog 6 #[v0, v1, v2] W (LawEnd W) := by
  obtain ⟨t0, ins0, outs0, nulls0, notes0, rfl, hT0⟩ := open_tx o0 h0
  obtain ⟨s1, rfl, rfl, rfl, hs1⟩ := open_string Try.underlying9 o1 h1
  obtain ⟨a2, rfl, rfl, rfl, w2⟩ := open_int Try.underlying44 o2 h2
  have b2 := bounds_u16 w2
  exact (by rw [← sB_whole s1]; obtain ⟨c, rfl⟩ := Int.eq_ofNat_of_zero_le b2.1; exact txBack_walk t0 _ _ c W (TxL.of hT0) (by omega))

end Go.Proofs.Ytfnlgihkofkibaa
