/- From the readings of the arguments to the walks. -/
import Derived.Test.YtahkiabpjfcfdaaBase2
import Derived.Test.YtahkiabpjfcfdaaBlkDecodes
import Derived.Test.YtahkiabpjfcfdaaOpenBlk
import Derived.ProofKit
import Derived.OpenShut
namespace Go.Proofs.Ytahkiabpjfcfdaa
set_option maxRecDepth 100000
open Go.ChangeShapes Go.WideShapes Go.ChangeAt Go.RowKit
open Go.ChangeMaps (open_string)
set_option linter.unusedVariables false

theorem sB_whole (s : ByteArray) : sB s.data.toList = s := by
  apply ByteArray.ext
  simp [sB]

theorem blockDecodes_law {H : Type} {enc : TypeId × Value → H} {base : Nat} (W : World) (v0 : Value) (d0 : DataW H) (p0 : List MemPlace)
    (o0 : Value.okWide Try.prog W .any base 9 v0) (h0 : DataW.Trod enc Try.prog W 0 (fun _ => true) true 9 v0 d0 p0)
    (hsz : (DataW.weightsEach Try.prog [9] [d0]).all (· ≤ reachBytes) = true) :
    Calls Try.prog 10 #[v0] W (LawEnd W) := by
  obtain ⟨s0, rfl, rfl, rfl, hs0⟩ := open_string Try.underlying9 o0 h0
  exact (by rw [← sB_whole s0]; exact blockDecodes_walk _ W)

end Go.Proofs.Ytahkiabpjfcfdaa
