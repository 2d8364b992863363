/-
  No cell of these rows narrows 'for every input' (looked for: loops, veiled, ifaces, maps, wideKeys, modest, calm, conditions, laid).
  DERIVED. THE GIVEN ROWS OF THIS SEAT. 10 by the template 'for every input the law returns true; each argument reads behind the call as it read before'; 0 by the template 'total and deterministic' (their statements: YtghjpbmemogioaaTotals.lean).
  GIVEN WITH THE SEED: the statements are not yours to turn. If you find one false, say at which input.
  Laid BY PROGRAM, IN A SANDBOX (cutbox-rows.mjs): the forced cells as the released guide's own fill.sh prints them over the translation 135b56ecce50f1cb… (all of the seat's roots in one cut). By AI agents, Wed Nov 11 2026. No macro, syntax, notation, axiom, sorry.
-/
import Derived.Test.YtghjpbmemogioaaChecked
import GoSem.Claim
import GoSem.ClaimJoined
import GoSem.ClaimMapViews
import Derived.JoinedTies
import Derived.KernelRfl
namespace Go.Proofs.Ytghjpbmemogioaa
/- THE CELL 'sum', in the pinned program and in every row, IS THE sha256 OF THE DUMP (.gsa) THAT YtghjpbmemogioaaProg.lean LOADS. Nothing in Lean hashes anything: it is a label: what it is worth is what the hold of that sum in a sandbox is worth. -/
noncomputable def Try.pinned : Pinned := { name := "ytghjpbmemogioaa", sum := "135b56ecce50f1cbd9c8c6527ba932f3f40b5fdc72a82e765cf7f3b7245a3229", checked := Try.checked }
namespace Rows
def none {H : Type} : Left H := { results := [], args := [] }

/-- 'thuriblelaw02.MoneyBack': WHATEVER THE INPUT: true; the input reads as it did. -/
def moneyBackSpec : ChangeSpec := { name := "moneyBack", fn := fun _ => fun
  | [d1, d2, d3] => { results := [.lit (.bool true)], args := [d1, d2, d3] }
  | _ => none }
def moneyBackRow : OpenClaim := { program := "ytghjpbmemogioaa", sum := "135b56ecce50f1cbd9c8c6527ba932f3f40b5fdc72a82e765cf7f3b7245a3229", func := "thurible/thuriblelaw02.MoneyBack", spec := "moneyBack", unfollowed := true, recurses := true, apart := false }
def MoneyBackSaid : Prop := moneyBackRow.holds Try.pinned (OpenSpec.ofChange moneyBackSpec)

/-- ITS FALSE NEIGHBOUR: 'it returns false'. Refute it at one input. -/
def moneyBackWrong : ChangeSpec := { name := "moneyBack", fn := fun _ => fun
  | [d1, d2, d3] => { results := [.lit (.bool false)], args := [d1, d2, d3] }
  | _ => none }
def MoneyBackWrongFalsely : Prop := moneyBackRow.holds Try.pinned (OpenSpec.ofChange moneyBackWrong)

/-- 'thuriblelaw02.MoneyParts': WHATEVER THE INPUT: true; the input reads as it did. -/
def moneyPartsSpec : ChangeSpec := { name := "moneyParts", fn := fun _ => fun
  | [d1, d2] => { results := [.lit (.bool true)], args := [d1, d2] }
  | _ => none }
def moneyPartsRow : OpenClaim := { program := "ytghjpbmemogioaa", sum := "135b56ecce50f1cbd9c8c6527ba932f3f40b5fdc72a82e765cf7f3b7245a3229", func := "thurible/thuriblelaw02.MoneyParts", spec := "moneyParts", unfollowed := true, recurses := true, apart := false }
def MoneyPartsSaid : Prop := moneyPartsRow.holds Try.pinned (OpenSpec.ofChange moneyPartsSpec)

/-- ITS FALSE NEIGHBOUR: 'it returns false'. Refute it at one input. -/
def moneyPartsWrong : ChangeSpec := { name := "moneyParts", fn := fun _ => fun
  | [d1, d2] => { results := [.lit (.bool false)], args := [d1, d2] }
  | _ => none }
def MoneyPartsWrongFalsely : Prop := moneyPartsRow.holds Try.pinned (OpenSpec.ofChange moneyPartsWrong)

/-- 'thuriblelaw02.MoneySteps': WHATEVER THE INPUT: true; the input reads as it did. -/
def moneyStepsSpec : ChangeSpec := { name := "moneySteps", fn := fun _ => fun
  | [d1, d2, d3] => { results := [.lit (.bool true)], args := [d1, d2, d3] }
  | _ => none }
def moneyStepsRow : OpenClaim := { program := "ytghjpbmemogioaa", sum := "135b56ecce50f1cbd9c8c6527ba932f3f40b5fdc72a82e765cf7f3b7245a3229", func := "thurible/thuriblelaw02.MoneySteps", spec := "moneySteps", unfollowed := true, recurses := true, apart := false }
def MoneyStepsSaid : Prop := moneyStepsRow.holds Try.pinned (OpenSpec.ofChange moneyStepsSpec)

/-- ITS FALSE NEIGHBOUR: 'it returns false'. Refute it at one input. -/
def moneyStepsWrong : ChangeSpec := { name := "moneySteps", fn := fun _ => fun
  | [d1, d2, d3] => { results := [.lit (.bool false)], args := [d1, d2, d3] }
  | _ => none }
def MoneyStepsWrongFalsely : Prop := moneyStepsRow.holds Try.pinned (OpenSpec.ofChange moneyStepsWrong)

/-- 'thuriblelaw02.MoneyFees': WHATEVER THE INPUT: true; the input reads as it did. -/
def moneyFeesSpec : ChangeSpec := { name := "moneyFees", fn := fun _ => fun
  | [d1, d2, d3] => { results := [.lit (.bool true)], args := [d1, d2, d3] }
  | _ => none }
def moneyFeesRow : OpenClaim := { program := "ytghjpbmemogioaa", sum := "135b56ecce50f1cbd9c8c6527ba932f3f40b5fdc72a82e765cf7f3b7245a3229", func := "thurible/thuriblelaw02.MoneyFees", spec := "moneyFees", unfollowed := true, recurses := true, apart := false }
def MoneyFeesSaid : Prop := moneyFeesRow.holds Try.pinned (OpenSpec.ofChange moneyFeesSpec)

/-- ITS FALSE NEIGHBOUR: 'it returns false'. Refute it at one input. -/
def moneyFeesWrong : ChangeSpec := { name := "moneyFees", fn := fun _ => fun
  | [d1, d2, d3] => { results := [.lit (.bool false)], args := [d1, d2, d3] }
  | _ => none }
def MoneyFeesWrongFalsely : Prop := moneyFeesRow.holds Try.pinned (OpenSpec.ofChange moneyFeesWrong)

/-- 'thuriblelaw02.MoneyTells': WHATEVER THE INPUT: true; the input reads as it did. -/
def moneyTellsSpec : ChangeSpec := { name := "moneyTells", fn := fun _ => fun
  | [d1, d2, d3, d4] => { results := [.lit (.bool true)], args := [d1, d2, d3, d4] }
  | _ => none }
def moneyTellsRow : OpenClaim := { program := "ytghjpbmemogioaa", sum := "135b56ecce50f1cbd9c8c6527ba932f3f40b5fdc72a82e765cf7f3b7245a3229", func := "thurible/thuriblelaw02.MoneyTells", spec := "moneyTells", unfollowed := true, recurses := true, apart := false }
def MoneyTellsSaid : Prop := moneyTellsRow.holds Try.pinned (OpenSpec.ofChange moneyTellsSpec)

/-- ITS FALSE NEIGHBOUR: 'it returns false'. Refute it at one input. -/
def moneyTellsWrong : ChangeSpec := { name := "moneyTells", fn := fun _ => fun
  | [d1, d2, d3, d4] => { results := [.lit (.bool false)], args := [d1, d2, d3, d4] }
  | _ => none }
def MoneyTellsWrongFalsely : Prop := moneyTellsRow.holds Try.pinned (OpenSpec.ofChange moneyTellsWrong)

/-- 'thuriblelaw02.MoneyRange': WHATEVER THE INPUT: true; the input reads as it did. -/
def moneyRangeSpec : ChangeSpec := { name := "moneyRange", fn := fun _ => fun
  | [d1, d2] => { results := [.lit (.bool true)], args := [d1, d2] }
  | _ => none }
def moneyRangeRow : OpenClaim := { program := "ytghjpbmemogioaa", sum := "135b56ecce50f1cbd9c8c6527ba932f3f40b5fdc72a82e765cf7f3b7245a3229", func := "thurible/thuriblelaw02.MoneyRange", spec := "moneyRange", unfollowed := true, recurses := true, apart := false }
def MoneyRangeSaid : Prop := moneyRangeRow.holds Try.pinned (OpenSpec.ofChange moneyRangeSpec)

/-- ITS FALSE NEIGHBOUR: 'it returns false'. Refute it at one input. -/
def moneyRangeWrong : ChangeSpec := { name := "moneyRange", fn := fun _ => fun
  | [d1, d2] => { results := [.lit (.bool false)], args := [d1, d2] }
  | _ => none }
def MoneyRangeWrongFalsely : Prop := moneyRangeRow.holds Try.pinned (OpenSpec.ofChange moneyRangeWrong)

/-- 'thuriblelaw18.RecentTells': WHATEVER THE INPUT: true; the input reads as it did. -/
def recentTellsSpec : ChangeSpec := { name := "recentTells", fn := fun _ => fun
  | [d1, d2, d3] => { results := [.lit (.bool true)], args := [d1, d2, d3] }
  | _ => none }
def recentTellsRow : OpenClaim := { program := "ytghjpbmemogioaa", sum := "135b56ecce50f1cbd9c8c6527ba932f3f40b5fdc72a82e765cf7f3b7245a3229", func := "thurible/thuriblelaw18.RecentTells", spec := "recentTells", unfollowed := true, recurses := true, apart := false }
def RecentTellsSaid : Prop := recentTellsRow.holds Try.pinned (OpenSpec.ofChange recentTellsSpec)

/-- ITS FALSE NEIGHBOUR: 'it returns false'. Refute it at one input. -/
def recentTellsWrong : ChangeSpec := { name := "recentTells", fn := fun _ => fun
  | [d1, d2, d3] => { results := [.lit (.bool false)], args := [d1, d2, d3] }
  | _ => none }
def RecentTellsWrongFalsely : Prop := recentTellsRow.holds Try.pinned (OpenSpec.ofChange recentTellsWrong)

/-- 'thuriblelaw18.RecentLast': WHATEVER THE INPUT: true; the input reads as it did. -/
def recentLastSpec : ChangeSpec := { name := "recentLast", fn := fun _ => fun
  | [d1, d2, d3] => { results := [.lit (.bool true)], args := [d1, d2, d3] }
  | _ => none }
def recentLastRow : OpenClaim := { program := "ytghjpbmemogioaa", sum := "135b56ecce50f1cbd9c8c6527ba932f3f40b5fdc72a82e765cf7f3b7245a3229", func := "thurible/thuriblelaw18.RecentLast", spec := "recentLast", unfollowed := true, recurses := true, apart := false }
def RecentLastSaid : Prop := recentLastRow.holds Try.pinned (OpenSpec.ofChange recentLastSpec)

/-- ITS FALSE NEIGHBOUR: 'it returns false'. Refute it at one input. -/
def recentLastWrong : ChangeSpec := { name := "recentLast", fn := fun _ => fun
  | [d1, d2, d3] => { results := [.lit (.bool false)], args := [d1, d2, d3] }
  | _ => none }
def RecentLastWrongFalsely : Prop := recentLastRow.holds Try.pinned (OpenSpec.ofChange recentLastWrong)

/-- 'thuriblelaw18.RecentTwice': WHATEVER THE INPUT: true; the input reads as it did. -/
def recentTwiceSpec : ChangeSpec := { name := "recentTwice", fn := fun _ => fun
  | [d1, d2, d3, d4] => { results := [.lit (.bool true)], args := [d1, d2, d3, d4] }
  | _ => none }
def recentTwiceRow : OpenClaim := { program := "ytghjpbmemogioaa", sum := "135b56ecce50f1cbd9c8c6527ba932f3f40b5fdc72a82e765cf7f3b7245a3229", func := "thurible/thuriblelaw18.RecentTwice", spec := "recentTwice", unfollowed := true, recurses := true, apart := false }
def RecentTwiceSaid : Prop := recentTwiceRow.holds Try.pinned (OpenSpec.ofChange recentTwiceSpec)

/-- ITS FALSE NEIGHBOUR: 'it returns false'. Refute it at one input. -/
def recentTwiceWrong : ChangeSpec := { name := "recentTwice", fn := fun _ => fun
  | [d1, d2, d3, d4] => { results := [.lit (.bool false)], args := [d1, d2, d3, d4] }
  | _ => none }
def RecentTwiceWrongFalsely : Prop := recentTwiceRow.holds Try.pinned (OpenSpec.ofChange recentTwiceWrong)

/-- 'thuriblelaw18.RecentOver': WHATEVER THE INPUT: true; the input reads as it did. -/
def recentOverSpec : ChangeSpec := { name := "recentOver", fn := fun _ => fun
  | [d1, d2, d3, d4] => { results := [.lit (.bool true)], args := [d1, d2, d3, d4] }
  | _ => none }
def recentOverRow : OpenClaim := { program := "ytghjpbmemogioaa", sum := "135b56ecce50f1cbd9c8c6527ba932f3f40b5fdc72a82e765cf7f3b7245a3229", func := "thurible/thuriblelaw18.RecentOver", spec := "recentOver", unfollowed := true, recurses := true, apart := false }
def RecentOverSaid : Prop := recentOverRow.holds Try.pinned (OpenSpec.ofChange recentOverSpec)

/-- ITS FALSE NEIGHBOUR: 'it returns false'. Refute it at one input. -/
def recentOverWrong : ChangeSpec := { name := "recentOver", fn := fun _ => fun
  | [d1, d2, d3, d4] => { results := [.lit (.bool false)], args := [d1, d2, d3, d4] }
  | _ => none }
def RecentOverWrongFalsely : Prop := recentOverRow.holds Try.pinned (OpenSpec.ofChange recentOverWrong)

/- THE SECOND FORM. 'bulk': how many values and letters a reading holds, each counted each time it is reached (what is shared counts as often as it is met; a slice's spare places count too). A statement '..UptoSaid' is the law's where the arguments, and the package variables that the reading takes, are together of bulk at most 1048576: NARROWER than '..Said'. Prove '..Said' where nothing that the law and all that it calls make is longer than what came in: it says more and counts as full. Else prove '..UptoSaid'. A law counts once. -/
mutual
def uptoBulk {H : Type} : DataW H → Nat
  | .lit (.string bytes) => bytes.length + 1
  | .lit _ => 1
  | .nil => 1
  | .ptr d => uptoBulk d + 1
  | .slice elems spare => uptoBulkAll elems + uptoBulkAll spare + 1
  | .agg parts => uptoBulkAll parts + 1
  | .iface _ d => uptoBulk d + 1
  | .map entries => uptoBulkEntries entries + 1
  | .held _ => 1
def uptoBulkAll {H : Type} : List (DataW H) → Nat
  | [] => 0
  | d :: r => uptoBulk d + uptoBulkAll r
def uptoBulkEntries {H : Type} : List (Lit × DataW H) → Nat
  | [] => 0
  | x :: r => uptoBulkEntry x + uptoBulkEntries r
def uptoBulkEntry {H : Type} : Lit × DataW H → Nat
  | (.string bytes, d) => bytes.length + uptoBulk d + 1
  | (_, d) => uptoBulk d + 1
 end
def uptoSmall : (H : Type) → List (DataW H) → Bool := fun _ ds => decide (uptoBulkAll ds ≤ 1048576)
def OpenSpec.upto (s : _root_.Go.ChangeSpec) : _root_.Go.OpenSpec := { _root_.Go.OpenSpec.ofChange s with cond := some uptoSmall }

/-- 'thuriblelaw02.MoneyBack', WHERE WHAT IT READS IS OF BULK AT MOST 1048576: true; the input reads as it did. -/
def moneyBackUptoRow : OpenClaim := { program := "ytghjpbmemogioaa", sum := "135b56ecce50f1cbd9c8c6527ba932f3f40b5fdc72a82e765cf7f3b7245a3229", func := "thurible/thuriblelaw02.MoneyBack", spec := "moneyBack", unfollowed := true, recurses := true, apart := false, narrowed := true }
def MoneyBackUptoSaid : Prop := moneyBackUptoRow.holds Try.pinned (OpenSpec.upto moneyBackSpec)

/-- 'thuriblelaw02.MoneyParts', WHERE WHAT IT READS IS OF BULK AT MOST 1048576: true; the input reads as it did. -/
def moneyPartsUptoRow : OpenClaim := { program := "ytghjpbmemogioaa", sum := "135b56ecce50f1cbd9c8c6527ba932f3f40b5fdc72a82e765cf7f3b7245a3229", func := "thurible/thuriblelaw02.MoneyParts", spec := "moneyParts", unfollowed := true, recurses := true, apart := false, narrowed := true }
def MoneyPartsUptoSaid : Prop := moneyPartsUptoRow.holds Try.pinned (OpenSpec.upto moneyPartsSpec)

/-- 'thuriblelaw02.MoneySteps', WHERE WHAT IT READS IS OF BULK AT MOST 1048576: true; the input reads as it did. -/
def moneyStepsUptoRow : OpenClaim := { program := "ytghjpbmemogioaa", sum := "135b56ecce50f1cbd9c8c6527ba932f3f40b5fdc72a82e765cf7f3b7245a3229", func := "thurible/thuriblelaw02.MoneySteps", spec := "moneySteps", unfollowed := true, recurses := true, apart := false, narrowed := true }
def MoneyStepsUptoSaid : Prop := moneyStepsUptoRow.holds Try.pinned (OpenSpec.upto moneyStepsSpec)

/-- 'thuriblelaw02.MoneyFees', WHERE WHAT IT READS IS OF BULK AT MOST 1048576: true; the input reads as it did. -/
def moneyFeesUptoRow : OpenClaim := { program := "ytghjpbmemogioaa", sum := "135b56ecce50f1cbd9c8c6527ba932f3f40b5fdc72a82e765cf7f3b7245a3229", func := "thurible/thuriblelaw02.MoneyFees", spec := "moneyFees", unfollowed := true, recurses := true, apart := false, narrowed := true }
def MoneyFeesUptoSaid : Prop := moneyFeesUptoRow.holds Try.pinned (OpenSpec.upto moneyFeesSpec)

/-- 'thuriblelaw02.MoneyTells', WHERE WHAT IT READS IS OF BULK AT MOST 1048576: true; the input reads as it did. -/
def moneyTellsUptoRow : OpenClaim := { program := "ytghjpbmemogioaa", sum := "135b56ecce50f1cbd9c8c6527ba932f3f40b5fdc72a82e765cf7f3b7245a3229", func := "thurible/thuriblelaw02.MoneyTells", spec := "moneyTells", unfollowed := true, recurses := true, apart := false, narrowed := true }
def MoneyTellsUptoSaid : Prop := moneyTellsUptoRow.holds Try.pinned (OpenSpec.upto moneyTellsSpec)

/-- 'thuriblelaw02.MoneyRange', WHERE WHAT IT READS IS OF BULK AT MOST 1048576: true; the input reads as it did. -/
def moneyRangeUptoRow : OpenClaim := { program := "ytghjpbmemogioaa", sum := "135b56ecce50f1cbd9c8c6527ba932f3f40b5fdc72a82e765cf7f3b7245a3229", func := "thurible/thuriblelaw02.MoneyRange", spec := "moneyRange", unfollowed := true, recurses := true, apart := false, narrowed := true }
def MoneyRangeUptoSaid : Prop := moneyRangeUptoRow.holds Try.pinned (OpenSpec.upto moneyRangeSpec)

/-- 'thuriblelaw18.RecentTells', WHERE WHAT IT READS IS OF BULK AT MOST 1048576: true; the input reads as it did. -/
def recentTellsUptoRow : OpenClaim := { program := "ytghjpbmemogioaa", sum := "135b56ecce50f1cbd9c8c6527ba932f3f40b5fdc72a82e765cf7f3b7245a3229", func := "thurible/thuriblelaw18.RecentTells", spec := "recentTells", unfollowed := true, recurses := true, apart := false, narrowed := true }
def RecentTellsUptoSaid : Prop := recentTellsUptoRow.holds Try.pinned (OpenSpec.upto recentTellsSpec)

/-- 'thuriblelaw18.RecentLast', WHERE WHAT IT READS IS OF BULK AT MOST 1048576: true; the input reads as it did. -/
def recentLastUptoRow : OpenClaim := { program := "ytghjpbmemogioaa", sum := "135b56ecce50f1cbd9c8c6527ba932f3f40b5fdc72a82e765cf7f3b7245a3229", func := "thurible/thuriblelaw18.RecentLast", spec := "recentLast", unfollowed := true, recurses := true, apart := false, narrowed := true }
def RecentLastUptoSaid : Prop := recentLastUptoRow.holds Try.pinned (OpenSpec.upto recentLastSpec)

/-- 'thuriblelaw18.RecentTwice', WHERE WHAT IT READS IS OF BULK AT MOST 1048576: true; the input reads as it did. -/
def recentTwiceUptoRow : OpenClaim := { program := "ytghjpbmemogioaa", sum := "135b56ecce50f1cbd9c8c6527ba932f3f40b5fdc72a82e765cf7f3b7245a3229", func := "thurible/thuriblelaw18.RecentTwice", spec := "recentTwice", unfollowed := true, recurses := true, apart := false, narrowed := true }
def RecentTwiceUptoSaid : Prop := recentTwiceUptoRow.holds Try.pinned (OpenSpec.upto recentTwiceSpec)

/-- 'thuriblelaw18.RecentOver', WHERE WHAT IT READS IS OF BULK AT MOST 1048576: true; the input reads as it did. -/
def recentOverUptoRow : OpenClaim := { program := "ytghjpbmemogioaa", sum := "135b56ecce50f1cbd9c8c6527ba932f3f40b5fdc72a82e765cf7f3b7245a3229", func := "thurible/thuriblelaw18.RecentOver", spec := "recentOver", unfollowed := true, recurses := true, apart := false, narrowed := true }
def RecentOverUptoSaid : Prop := recentOverUptoRow.holds Try.pinned (OpenSpec.upto recentOverSpec)

end Rows
end Go.Proofs.Ytghjpbmemogioaa
