/-
  No cell of these rows narrows 'for every input' (looked for: loops, veiled, ifaces, maps, wideKeys, modest, calm, conditions, laid).
  DERIVED. THE GIVEN ROWS OF THIS SEAT. 8 by the template 'for every input the law returns true; each argument reads behind the call as it read before'; 0 by the template 'total and deterministic' (their statements: YtfnlgihkofkibaaTotals.lean).
  GIVEN WITH THE SEED: the statements are not yours to turn. If you find one false, say at which input.
  Laid BY PROGRAM, IN A SANDBOX (cutbox-rows.mjs): the forced cells as the released guide's own fill.sh prints them over the translation 8684bb0272c378f2… (all of the seat's roots in one cut). By AI agents, Wed Nov 11 2026. No macro, syntax, notation, axiom, sorry.
-/
import Derived.Test.YtfnlgihkofkibaaChecked
import GoSem.Claim
import GoSem.ClaimJoined
import GoSem.ClaimMapViews
import Derived.JoinedTies
import Derived.KernelRfl
namespace Go.Proofs.Ytfnlgihkofkibaa
/- THE CELL 'sum', in the pinned program and in every row, IS THE sha256 OF THE DUMP (.gsa) THAT YtfnlgihkofkibaaProg.lean LOADS. Nothing in Lean hashes anything: it is a label: what it is worth is what the hold of that sum in a sandbox is worth. -/
noncomputable def Try.pinned : Pinned := { name := "ytfnlgihkofkibaa", sum := "8684bb0272c378f237c344d0ee56aa7d57341df42c64efd71085068d4ca6b295", checked := Try.checked }
namespace Rows
def none {H : Type} : Left H := { results := [], args := [] }

/-- 'thuriblelaw05.TxSizes': WHATEVER THE INPUT: true; the input reads as it did. -/
def txSizesSpec : ChangeSpec := { name := "txSizes", fn := fun _ => fun
  | [d] => { results := [.lit (.bool true)], args := [d] }
  | _ => none }
def txSizesRow : OpenClaim := { program := "ytfnlgihkofkibaa", sum := "8684bb0272c378f237c344d0ee56aa7d57341df42c64efd71085068d4ca6b295", func := "thurible/thuriblelaw05.TxSizes", spec := "txSizes", inPlace := ["internal/abi.NoEscape"], unfollowed := true, recurses := true, apart := false }
def TxSizesSaid : Prop := txSizesRow.holds Try.pinned (OpenSpec.ofChange txSizesSpec)

/-- ITS FALSE NEIGHBOUR: 'it returns false'. Refute it at one input. -/
def txSizesWrong : ChangeSpec := { name := "txSizes", fn := fun _ => fun
  | [d] => { results := [.lit (.bool false)], args := [d] }
  | _ => none }
def TxSizesWrongFalsely : Prop := txSizesRow.holds Try.pinned (OpenSpec.ofChange txSizesWrong)

/-- 'thuriblelaw05.TxCoinbase': WHATEVER THE INPUT: true; the input reads as it did. -/
def txCoinbaseSpec : ChangeSpec := { name := "txCoinbase", fn := fun _ => fun
  | [d1, d2] => { results := [.lit (.bool true)], args := [d1, d2] }
  | _ => none }
def txCoinbaseRow : OpenClaim := { program := "ytfnlgihkofkibaa", sum := "8684bb0272c378f237c344d0ee56aa7d57341df42c64efd71085068d4ca6b295", func := "thurible/thuriblelaw05.TxCoinbase", spec := "txCoinbase", inPlace := ["internal/abi.NoEscape"], unfollowed := true, recurses := true, apart := false }
def TxCoinbaseSaid : Prop := txCoinbaseRow.holds Try.pinned (OpenSpec.ofChange txCoinbaseSpec)

/-- ITS FALSE NEIGHBOUR: 'it returns false'. Refute it at one input. -/
def txCoinbaseWrong : ChangeSpec := { name := "txCoinbase", fn := fun _ => fun
  | [d1, d2] => { results := [.lit (.bool false)], args := [d1, d2] }
  | _ => none }
def TxCoinbaseWrongFalsely : Prop := txCoinbaseRow.holds Try.pinned (OpenSpec.ofChange txCoinbaseWrong)

/-- 'thuriblelaw05.TxDecodes': WHATEVER THE INPUT: true; the input reads as it did. -/
def txDecodesSpec : ChangeSpec := { name := "txDecodes", fn := fun _ => fun
  | [d] => { results := [.lit (.bool true)], args := [d] }
  | _ => none }
def txDecodesRow : OpenClaim := { program := "ytfnlgihkofkibaa", sum := "8684bb0272c378f237c344d0ee56aa7d57341df42c64efd71085068d4ca6b295", func := "thurible/thuriblelaw05.TxDecodes", spec := "txDecodes", inPlace := ["internal/abi.NoEscape"], unfollowed := true, recurses := true, apart := false }
def TxDecodesSaid : Prop := txDecodesRow.holds Try.pinned (OpenSpec.ofChange txDecodesSpec)

/-- ITS FALSE NEIGHBOUR: 'it returns false'. Refute it at one input. -/
def txDecodesWrong : ChangeSpec := { name := "txDecodes", fn := fun _ => fun
  | [d] => { results := [.lit (.bool false)], args := [d] }
  | _ => none }
def TxDecodesWrongFalsely : Prop := txDecodesRow.holds Try.pinned (OpenSpec.ofChange txDecodesWrong)

/-- 'thuriblelaw05.TxBack': WHATEVER THE INPUT: true; the input reads as it did. -/
def txBackSpec : ChangeSpec := { name := "txBack", fn := fun _ => fun
  | [d1, d2, d3] => { results := [.lit (.bool true)], args := [d1, d2, d3] }
  | _ => none }
def txBackRow : OpenClaim := { program := "ytfnlgihkofkibaa", sum := "8684bb0272c378f237c344d0ee56aa7d57341df42c64efd71085068d4ca6b295", func := "thurible/thuriblelaw05.TxBack", spec := "txBack", inPlace := ["internal/abi.NoEscape"], unfollowed := true, recurses := true, apart := false }
def TxBackSaid : Prop := txBackRow.holds Try.pinned (OpenSpec.ofChange txBackSpec)

/-- ITS FALSE NEIGHBOUR: 'it returns false'. Refute it at one input. -/
def txBackWrong : ChangeSpec := { name := "txBack", fn := fun _ => fun
  | [d1, d2, d3] => { results := [.lit (.bool false)], args := [d1, d2, d3] }
  | _ => none }
def TxBackWrongFalsely : Prop := txBackRow.holds Try.pinned (OpenSpec.ofChange txBackWrong)

/-- 'thuriblelaw05.TxOne': WHATEVER THE INPUT: true; the input reads as it did. -/
def txOneSpec : ChangeSpec := { name := "txOne", fn := fun _ => fun
  | [d] => { results := [.lit (.bool true)], args := [d] }
  | _ => none }
def txOneRow : OpenClaim := { program := "ytfnlgihkofkibaa", sum := "8684bb0272c378f237c344d0ee56aa7d57341df42c64efd71085068d4ca6b295", func := "thurible/thuriblelaw05.TxOne", spec := "txOne", inPlace := ["internal/abi.NoEscape"], unfollowed := true, recurses := true, apart := false }
def TxOneSaid : Prop := txOneRow.holds Try.pinned (OpenSpec.ofChange txOneSpec)

/-- ITS FALSE NEIGHBOUR: 'it returns false'. Refute it at one input. -/
def txOneWrong : ChangeSpec := { name := "txOne", fn := fun _ => fun
  | [d] => { results := [.lit (.bool false)], args := [d] }
  | _ => none }
def TxOneWrongFalsely : Prop := txOneRow.holds Try.pinned (OpenSpec.ofChange txOneWrong)

/-- 'thuriblelaw05.TxNames': WHATEVER THE INPUT: true; the input reads as it did. -/
def txNamesSpec : ChangeSpec := { name := "txNames", fn := fun _ => fun
  | [d1, d2] => { results := [.lit (.bool true)], args := [d1, d2] }
  | _ => none }
def txNamesRow : OpenClaim := { program := "ytfnlgihkofkibaa", sum := "8684bb0272c378f237c344d0ee56aa7d57341df42c64efd71085068d4ca6b295", func := "thurible/thuriblelaw05.TxNames", spec := "txNames", inPlace := ["internal/abi.NoEscape", "internal/bytealg.MakeNoZero"], unfollowed := true, recurses := true, apart := false }
def TxNamesSaid : Prop := txNamesRow.holds Try.pinned (OpenSpec.ofChange txNamesSpec)

/-- ITS FALSE NEIGHBOUR: 'it returns false'. Refute it at one input. -/
def txNamesWrong : ChangeSpec := { name := "txNames", fn := fun _ => fun
  | [d1, d2] => { results := [.lit (.bool false)], args := [d1, d2] }
  | _ => none }
def TxNamesWrongFalsely : Prop := txNamesRow.holds Try.pinned (OpenSpec.ofChange txNamesWrong)

/-- 'thuriblelaw05.TxEncodes': WHATEVER THE INPUT: true; the input reads as it did. -/
def txEncodesSpec : ChangeSpec := { name := "txEncodes", fn := fun _ => fun
  | [d1, d2] => { results := [.lit (.bool true)], args := [d1, d2] }
  | _ => none }
def txEncodesRow : OpenClaim := { program := "ytfnlgihkofkibaa", sum := "8684bb0272c378f237c344d0ee56aa7d57341df42c64efd71085068d4ca6b295", func := "thurible/thuriblelaw05.TxEncodes", spec := "txEncodes", inPlace := ["internal/abi.NoEscape", "internal/bytealg.MakeNoZero"], unfollowed := true, recurses := true, apart := false }
def TxEncodesSaid : Prop := txEncodesRow.holds Try.pinned (OpenSpec.ofChange txEncodesSpec)

/-- ITS FALSE NEIGHBOUR: 'it returns false'. Refute it at one input. -/
def txEncodesWrong : ChangeSpec := { name := "txEncodes", fn := fun _ => fun
  | [d1, d2] => { results := [.lit (.bool false)], args := [d1, d2] }
  | _ => none }
def TxEncodesWrongFalsely : Prop := txEncodesRow.holds Try.pinned (OpenSpec.ofChange txEncodesWrong)

/-- 'thuriblelaw05.TxMany': WHATEVER THE INPUT: true; the input reads as it did. -/
def txManySpec : ChangeSpec := { name := "txMany", fn := fun _ => fun
  | [d1, d2, d3] => { results := [.lit (.bool true)], args := [d1, d2, d3] }
  | _ => none }
def txManyRow : OpenClaim := { program := "ytfnlgihkofkibaa", sum := "8684bb0272c378f237c344d0ee56aa7d57341df42c64efd71085068d4ca6b295", func := "thurible/thuriblelaw05.TxMany", spec := "txMany", inPlace := ["internal/abi.NoEscape", "internal/bytealg.MakeNoZero"], unfollowed := true, recurses := true, apart := false }
def TxManySaid : Prop := txManyRow.holds Try.pinned (OpenSpec.ofChange txManySpec)

/-- ITS FALSE NEIGHBOUR: 'it returns false'. Refute it at one input. -/
def txManyWrong : ChangeSpec := { name := "txMany", fn := fun _ => fun
  | [d1, d2, d3] => { results := [.lit (.bool false)], args := [d1, d2, d3] }
  | _ => none }
def TxManyWrongFalsely : Prop := txManyRow.holds Try.pinned (OpenSpec.ofChange txManyWrong)

/- THE SECOND FORM. 'bulk': how many values and letters a reading holds, each counted each time it is reached (what is shared counts as often as it is met; a slice's spare places count too). A statement '..UptoSaid' is the law's where the arguments, and the package variables that the reading takes, are together of bulk at most 1048576: NARROWER than '..Said'. Prove '..Said' where nothing that the law and all that it calls make is longer than what came in: it says more and counts as full. Else prove '..UptoSaid'. A law counts once. -/
mutual
def uptoBulk {H : Type} : DataW H → Nat
  | .lit (.string bytes) => bytes.length + 1
  | .lit _ => 1
  | .nil => 1
  | .ptr d => uptoBulk d + 1
  | .slice elems spare => uptoBulkAll elems + uptoBulkAll spare + 1
  | .agg parts => uptoBulkAll parts + 1
  | .iface _ d => uptoBulk d + 1
  | .map entries => uptoBulkEntries entries + 1
  | .held _ => 1
def uptoBulkAll {H : Type} : List (DataW H) → Nat
  | [] => 0
  | d :: r => uptoBulk d + uptoBulkAll r
def uptoBulkEntries {H : Type} : List (Lit × DataW H) → Nat
  | [] => 0
  | x :: r => uptoBulkEntry x + uptoBulkEntries r
def uptoBulkEntry {H : Type} : Lit × DataW H → Nat
  | (.string bytes, d) => bytes.length + uptoBulk d + 1
  | (_, d) => uptoBulk d + 1
 end
def uptoSmall : (H : Type) → List (DataW H) → Bool := fun _ ds => decide (uptoBulkAll ds ≤ 1048576)
def OpenSpec.upto (s : _root_.Go.ChangeSpec) : _root_.Go.OpenSpec := { _root_.Go.OpenSpec.ofChange s with cond := some uptoSmall }

/-- 'thuriblelaw05.TxSizes', WHERE WHAT IT READS IS OF BULK AT MOST 1048576: true; the input reads as it did. -/
def txSizesUptoRow : OpenClaim := { program := "ytfnlgihkofkibaa", sum := "8684bb0272c378f237c344d0ee56aa7d57341df42c64efd71085068d4ca6b295", func := "thurible/thuriblelaw05.TxSizes", spec := "txSizes", inPlace := ["internal/abi.NoEscape"], unfollowed := true, recurses := true, apart := false, narrowed := true }
def TxSizesUptoSaid : Prop := txSizesUptoRow.holds Try.pinned (OpenSpec.upto txSizesSpec)

/-- 'thuriblelaw05.TxCoinbase', WHERE WHAT IT READS IS OF BULK AT MOST 1048576: true; the input reads as it did. -/
def txCoinbaseUptoRow : OpenClaim := { program := "ytfnlgihkofkibaa", sum := "8684bb0272c378f237c344d0ee56aa7d57341df42c64efd71085068d4ca6b295", func := "thurible/thuriblelaw05.TxCoinbase", spec := "txCoinbase", inPlace := ["internal/abi.NoEscape"], unfollowed := true, recurses := true, apart := false, narrowed := true }
def TxCoinbaseUptoSaid : Prop := txCoinbaseUptoRow.holds Try.pinned (OpenSpec.upto txCoinbaseSpec)

/-- 'thuriblelaw05.TxDecodes', WHERE WHAT IT READS IS OF BULK AT MOST 1048576: true; the input reads as it did. -/
def txDecodesUptoRow : OpenClaim := { program := "ytfnlgihkofkibaa", sum := "8684bb0272c378f237c344d0ee56aa7d57341df42c64efd71085068d4ca6b295", func := "thurible/thuriblelaw05.TxDecodes", spec := "txDecodes", inPlace := ["internal/abi.NoEscape"], unfollowed := true, recurses := true, apart := false, narrowed := true }
def TxDecodesUptoSaid : Prop := txDecodesUptoRow.holds Try.pinned (OpenSpec.upto txDecodesSpec)

/-- 'thuriblelaw05.TxBack', WHERE WHAT IT READS IS OF BULK AT MOST 1048576: true; the input reads as it did. -/
def txBackUptoRow : OpenClaim := { program := "ytfnlgihkofkibaa", sum := "8684bb0272c378f237c344d0ee56aa7d57341df42c64efd71085068d4ca6b295", func := "thurible/thuriblelaw05.TxBack", spec := "txBack", inPlace := ["internal/abi.NoEscape"], unfollowed := true, recurses := true, apart := false, narrowed := true }
def TxBackUptoSaid : Prop := txBackUptoRow.holds Try.pinned (OpenSpec.upto txBackSpec)

/-- 'thuriblelaw05.TxOne', WHERE WHAT IT READS IS OF BULK AT MOST 1048576: true; the input reads as it did. -/
def txOneUptoRow : OpenClaim := { program := "ytfnlgihkofkibaa", sum := "8684bb0272c378f237c344d0ee56aa7d57341df42c64efd71085068d4ca6b295", func := "thurible/thuriblelaw05.TxOne", spec := "txOne", inPlace := ["internal/abi.NoEscape"], unfollowed := true, recurses := true, apart := false, narrowed := true }
def TxOneUptoSaid : Prop := txOneUptoRow.holds Try.pinned (OpenSpec.upto txOneSpec)

/-- 'thuriblelaw05.TxNames', WHERE WHAT IT READS IS OF BULK AT MOST 1048576: true; the input reads as it did. -/
def txNamesUptoRow : OpenClaim := { program := "ytfnlgihkofkibaa", sum := "8684bb0272c378f237c344d0ee56aa7d57341df42c64efd71085068d4ca6b295", func := "thurible/thuriblelaw05.TxNames", spec := "txNames", inPlace := ["internal/abi.NoEscape", "internal/bytealg.MakeNoZero"], unfollowed := true, recurses := true, apart := false, narrowed := true }
def TxNamesUptoSaid : Prop := txNamesUptoRow.holds Try.pinned (OpenSpec.upto txNamesSpec)

/-- 'thuriblelaw05.TxEncodes', WHERE WHAT IT READS IS OF BULK AT MOST 1048576: true; the input reads as it did. -/
def txEncodesUptoRow : OpenClaim := { program := "ytfnlgihkofkibaa", sum := "8684bb0272c378f237c344d0ee56aa7d57341df42c64efd71085068d4ca6b295", func := "thurible/thuriblelaw05.TxEncodes", spec := "txEncodes", inPlace := ["internal/abi.NoEscape", "internal/bytealg.MakeNoZero"], unfollowed := true, recurses := true, apart := false, narrowed := true }
def TxEncodesUptoSaid : Prop := txEncodesUptoRow.holds Try.pinned (OpenSpec.upto txEncodesSpec)

/-- 'thuriblelaw05.TxMany', WHERE WHAT IT READS IS OF BULK AT MOST 1048576: true; the input reads as it did. -/
def txManyUptoRow : OpenClaim := { program := "ytfnlgihkofkibaa", sum := "8684bb0272c378f237c344d0ee56aa7d57341df42c64efd71085068d4ca6b295", func := "thurible/thuriblelaw05.TxMany", spec := "txMany", inPlace := ["internal/abi.NoEscape", "internal/bytealg.MakeNoZero"], unfollowed := true, recurses := true, apart := false, narrowed := true }
def TxManyUptoSaid : Prop := txManyUptoRow.holds Try.pinned (OpenSpec.upto txManySpec)

end Rows
end Go.Proofs.Ytfnlgihkofkibaa
