/- A fact out of the walk's sight. No program. -/
import Derived.WalkKit
namespace Go.Proofs.Ytahkiabpjfcfdaa
set_option maxRecDepth 100000

/-- A fact out of the walk's sight. -/
structure Box (p : Prop) : Prop where
  out : p

end Go.Proofs.Ytahkiabpjfcfdaa
