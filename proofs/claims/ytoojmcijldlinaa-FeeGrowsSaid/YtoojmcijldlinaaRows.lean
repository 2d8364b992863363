/-
  No cell of these rows narrows 'for every input' (looked for: loops, veiled, ifaces, maps, wideKeys, modest, calm, conditions, laid).
  DERIVED. THE GIVEN ROWS OF THIS SEAT. 10 by the template 'for every input the law returns true; each argument reads behind the call as it read before'; 0 by the template 'total and deterministic' (their statements: YtoojmcijldlinaaTotals.lean).
  GIVEN WITH THE SEED: the statements are not yours to turn. If you find one false, say at which input.
  Laid BY PROGRAM, IN A SANDBOX (cutbox-rows.mjs): the forced cells as the released guide's own fill.sh prints them over the translation bb85bb7d0a7f96a0… (all of the seat's roots in one cut). By AI agents, Wed Nov 11 2026. No macro, syntax, notation, axiom, sorry.
-/
import Derived.Test.YtoojmcijldlinaaChecked
import GoSem.Claim
import GoSem.ClaimJoined
import GoSem.ClaimMapViews
import Derived.JoinedTies
import Derived.KernelRfl
namespace Go.Proofs.Ytoojmcijldlinaa
/- THE CELL 'sum', in the pinned program and in every row, IS THE sha256 OF THE DUMP (.gsa) THAT YtoojmcijldlinaaProg.lean LOADS. Nothing in Lean hashes anything: it is a label: what it is worth is what the hold of that sum in a sandbox is worth. -/
noncomputable def Try.pinned : Pinned := { name := "ytoojmcijldlinaa", sum := "bb85bb7d0a7f96a07b8dd731f6d1e22922648d0025daa3983ddede58e9d2f77b", checked := Try.checked }
namespace Rows
def none {H : Type} : Left H := { results := [], args := [] }

/-- 'thuriblelaw12.ExpiryCounts': WHATEVER THE INPUT: true; the input reads as it did. -/
def expiryCountsSpec : ChangeSpec := { name := "expiryCounts", fn := fun _ => fun
  | [d1, d2] => { results := [.lit (.bool true)], args := [d1, d2] }
  | _ => none }
def expiryCountsRow : OpenClaim := { program := "ytoojmcijldlinaa", sum := "bb85bb7d0a7f96a07b8dd731f6d1e22922648d0025daa3983ddede58e9d2f77b", func := "thurible/thuriblelaw12.ExpiryCounts", spec := "expiryCounts", apart := false }
def ExpiryCountsSaid : Prop := expiryCountsRow.holds Try.pinned (OpenSpec.ofChange expiryCountsSpec)

/-- ITS FALSE NEIGHBOUR: 'it returns false'. Refute it at one input. -/
def expiryCountsWrong : ChangeSpec := { name := "expiryCounts", fn := fun _ => fun
  | [d1, d2] => { results := [.lit (.bool false)], args := [d1, d2] }
  | _ => none }
def ExpiryCountsWrongFalsely : Prop := expiryCountsRow.holds Try.pinned (OpenSpec.ofChange expiryCountsWrong)

/-- 'thuriblelaw13.FeeGrows': WHATEVER THE INPUT: true; the input reads as it did. -/
def feeGrowsSpec : ChangeSpec := { name := "feeGrows", fn := fun _ => fun
  | [d1, d2] => { results := [.lit (.bool true)], args := [d1, d2] }
  | _ => none }
def feeGrowsRow : OpenClaim := { program := "ytoojmcijldlinaa", sum := "bb85bb7d0a7f96a07b8dd731f6d1e22922648d0025daa3983ddede58e9d2f77b", func := "thurible/thuriblelaw13.FeeGrows", spec := "feeGrows", unfollowed := true, recurses := true, apart := false }
def FeeGrowsSaid : Prop := feeGrowsRow.holds Try.pinned (OpenSpec.ofChange feeGrowsSpec)

/-- ITS FALSE NEIGHBOUR: 'it returns false'. Refute it at one input. -/
def feeGrowsWrong : ChangeSpec := { name := "feeGrows", fn := fun _ => fun
  | [d1, d2] => { results := [.lit (.bool false)], args := [d1, d2] }
  | _ => none }
def FeeGrowsWrongFalsely : Prop := feeGrowsRow.holds Try.pinned (OpenSpec.ofChange feeGrowsWrong)

/-- 'thuriblelaw13.FeeShares': WHATEVER THE INPUT: true; the input reads as it did. -/
def feeSharesSpec : ChangeSpec := { name := "feeShares", fn := fun _ => fun
  | [d1, d2] => { results := [.lit (.bool true)], args := [d1, d2] }
  | _ => none }
def feeSharesRow : OpenClaim := { program := "ytoojmcijldlinaa", sum := "bb85bb7d0a7f96a07b8dd731f6d1e22922648d0025daa3983ddede58e9d2f77b", func := "thurible/thuriblelaw13.FeeShares", spec := "feeShares", unfollowed := true, recurses := true, apart := false }
def FeeSharesSaid : Prop := feeSharesRow.holds Try.pinned (OpenSpec.ofChange feeSharesSpec)

/-- ITS FALSE NEIGHBOUR: 'it returns false'. Refute it at one input. -/
def feeSharesWrong : ChangeSpec := { name := "feeShares", fn := fun _ => fun
  | [d1, d2] => { results := [.lit (.bool false)], args := [d1, d2] }
  | _ => none }
def FeeSharesWrongFalsely : Prop := feeSharesRow.holds Try.pinned (OpenSpec.ofChange feeSharesWrong)

/-- 'thuriblelaw12.ExpiryTells': WHATEVER THE INPUT: true; the input reads as it did. -/
def expiryTellsSpec : ChangeSpec := { name := "expiryTells", fn := fun _ => fun
  | [d1, d2] => { results := [.lit (.bool true)], args := [d1, d2] }
  | _ => none }
def expiryTellsRow : OpenClaim := { program := "ytoojmcijldlinaa", sum := "bb85bb7d0a7f96a07b8dd731f6d1e22922648d0025daa3983ddede58e9d2f77b", func := "thurible/thuriblelaw12.ExpiryTells", spec := "expiryTells", apart := false }
def ExpiryTellsSaid : Prop := expiryTellsRow.holds Try.pinned (OpenSpec.ofChange expiryTellsSpec)

/-- ITS FALSE NEIGHBOUR: 'it returns false'. Refute it at one input. -/
def expiryTellsWrong : ChangeSpec := { name := "expiryTells", fn := fun _ => fun
  | [d1, d2] => { results := [.lit (.bool false)], args := [d1, d2] }
  | _ => none }
def ExpiryTellsWrongFalsely : Prop := expiryTellsRow.holds Try.pinned (OpenSpec.ofChange expiryTellsWrong)

/-- 'thuriblelaw12.ExpiryStays': WHATEVER THE INPUT: true; the input reads as it did. -/
def expiryStaysSpec : ChangeSpec := { name := "expiryStays", fn := fun _ => fun
  | [d1, d2, d3] => { results := [.lit (.bool true)], args := [d1, d2, d3] }
  | _ => none }
def expiryStaysRow : OpenClaim := { program := "ytoojmcijldlinaa", sum := "bb85bb7d0a7f96a07b8dd731f6d1e22922648d0025daa3983ddede58e9d2f77b", func := "thurible/thuriblelaw12.ExpiryStays", spec := "expiryStays", apart := false }
def ExpiryStaysSaid : Prop := expiryStaysRow.holds Try.pinned (OpenSpec.ofChange expiryStaysSpec)

/-- ITS FALSE NEIGHBOUR: 'it returns false'. Refute it at one input. -/
def expiryStaysWrong : ChangeSpec := { name := "expiryStays", fn := fun _ => fun
  | [d1, d2, d3] => { results := [.lit (.bool false)], args := [d1, d2, d3] }
  | _ => none }
def ExpiryStaysWrongFalsely : Prop := expiryStaysRow.holds Try.pinned (OpenSpec.ofChange expiryStaysWrong)

/-- 'thuriblelaw12.ExpiryNever': WHATEVER THE INPUT: true; the input reads as it did. -/
def expiryNeverSpec : ChangeSpec := { name := "expiryNever", fn := fun _ => fun
  | [d1, d2] => { results := [.lit (.bool true)], args := [d1, d2] }
  | _ => none }
def expiryNeverRow : OpenClaim := { program := "ytoojmcijldlinaa", sum := "bb85bb7d0a7f96a07b8dd731f6d1e22922648d0025daa3983ddede58e9d2f77b", func := "thurible/thuriblelaw12.ExpiryNever", spec := "expiryNever", apart := false }
def ExpiryNeverSaid : Prop := expiryNeverRow.holds Try.pinned (OpenSpec.ofChange expiryNeverSpec)

/-- ITS FALSE NEIGHBOUR: 'it returns false'. Refute it at one input. -/
def expiryNeverWrong : ChangeSpec := { name := "expiryNever", fn := fun _ => fun
  | [d1, d2] => { results := [.lit (.bool false)], args := [d1, d2] }
  | _ => none }
def ExpiryNeverWrongFalsely : Prop := expiryNeverRow.holds Try.pinned (OpenSpec.ofChange expiryNeverWrong)

/-- 'thuriblelaw13.FeeUnpaid': WHATEVER THE INPUT: true; the input reads as it did. -/
def feeUnpaidSpec : ChangeSpec := { name := "feeUnpaid", fn := fun _ => fun
  | [d1, d2] => { results := [.lit (.bool true)], args := [d1, d2] }
  | _ => none }
def feeUnpaidRow : OpenClaim := { program := "ytoojmcijldlinaa", sum := "bb85bb7d0a7f96a07b8dd731f6d1e22922648d0025daa3983ddede58e9d2f77b", func := "thurible/thuriblelaw13.FeeUnpaid", spec := "feeUnpaid", unfollowed := true, recurses := true, apart := false }
def FeeUnpaidSaid : Prop := feeUnpaidRow.holds Try.pinned (OpenSpec.ofChange feeUnpaidSpec)

/-- ITS FALSE NEIGHBOUR: 'it returns false'. Refute it at one input. -/
def feeUnpaidWrong : ChangeSpec := { name := "feeUnpaid", fn := fun _ => fun
  | [d1, d2] => { results := [.lit (.bool false)], args := [d1, d2] }
  | _ => none }
def FeeUnpaidWrongFalsely : Prop := feeUnpaidRow.holds Try.pinned (OpenSpec.ofChange feeUnpaidWrong)

/-- 'thuriblelaw13.FeeTells': WHATEVER THE INPUT: true; the input reads as it did. -/
def feeTellsSpec : ChangeSpec := { name := "feeTells", fn := fun _ => fun
  | [d1, d2] => { results := [.lit (.bool true)], args := [d1, d2] }
  | _ => none }
def feeTellsRow : OpenClaim := { program := "ytoojmcijldlinaa", sum := "bb85bb7d0a7f96a07b8dd731f6d1e22922648d0025daa3983ddede58e9d2f77b", func := "thurible/thuriblelaw13.FeeTells", spec := "feeTells", unfollowed := true, recurses := true, apart := false }
def FeeTellsSaid : Prop := feeTellsRow.holds Try.pinned (OpenSpec.ofChange feeTellsSpec)

/-- ITS FALSE NEIGHBOUR: 'it returns false'. Refute it at one input. -/
def feeTellsWrong : ChangeSpec := { name := "feeTells", fn := fun _ => fun
  | [d1, d2] => { results := [.lit (.bool false)], args := [d1, d2] }
  | _ => none }
def FeeTellsWrongFalsely : Prop := feeTellsRow.holds Try.pinned (OpenSpec.ofChange feeTellsWrong)

/-- 'thuriblelaw13.FeeRises': WHATEVER THE INPUT: true; the input reads as it did. -/
def feeRisesSpec : ChangeSpec := { name := "feeRises", fn := fun _ => fun
  | [d1, d2, d3] => { results := [.lit (.bool true)], args := [d1, d2, d3] }
  | _ => none }
def feeRisesRow : OpenClaim := { program := "ytoojmcijldlinaa", sum := "bb85bb7d0a7f96a07b8dd731f6d1e22922648d0025daa3983ddede58e9d2f77b", func := "thurible/thuriblelaw13.FeeRises", spec := "feeRises", unfollowed := true, recurses := true, apart := false }
def FeeRisesSaid : Prop := feeRisesRow.holds Try.pinned (OpenSpec.ofChange feeRisesSpec)

/-- ITS FALSE NEIGHBOUR: 'it returns false'. Refute it at one input. -/
def feeRisesWrong : ChangeSpec := { name := "feeRises", fn := fun _ => fun
  | [d1, d2, d3] => { results := [.lit (.bool false)], args := [d1, d2, d3] }
  | _ => none }
def FeeRisesWrongFalsely : Prop := feeRisesRow.holds Try.pinned (OpenSpec.ofChange feeRisesWrong)

/-- 'thuriblelaw13.FeeLeast': WHATEVER THE INPUT: true; the input reads as it did. -/
def feeLeastSpec : ChangeSpec := { name := "feeLeast", fn := fun _ => fun
  | [d] => { results := [.lit (.bool true)], args := [d] }
  | _ => none }
def feeLeastRow : OpenClaim := { program := "ytoojmcijldlinaa", sum := "bb85bb7d0a7f96a07b8dd731f6d1e22922648d0025daa3983ddede58e9d2f77b", func := "thurible/thuriblelaw13.FeeLeast", spec := "feeLeast", unfollowed := true, recurses := true, apart := false }
def FeeLeastSaid : Prop := feeLeastRow.holds Try.pinned (OpenSpec.ofChange feeLeastSpec)

/-- ITS FALSE NEIGHBOUR: 'it returns false'. Refute it at one input. -/
def feeLeastWrong : ChangeSpec := { name := "feeLeast", fn := fun _ => fun
  | [d] => { results := [.lit (.bool false)], args := [d] }
  | _ => none }
def FeeLeastWrongFalsely : Prop := feeLeastRow.holds Try.pinned (OpenSpec.ofChange feeLeastWrong)

/- THE SECOND FORM. 'bulk': how many values and letters a reading holds, each counted each time it is reached (what is shared counts as often as it is met; a slice's spare places count too). A statement '..UptoSaid' is the law's where the arguments, and the package variables that the reading takes, are together of bulk at most 1048576: NARROWER than '..Said'. Prove '..Said' where nothing that the law and all that it calls make is longer than what came in: it says more and counts as full. Else prove '..UptoSaid'. A law counts once. -/
mutual
def uptoBulk {H : Type} : DataW H → Nat
  | .lit (.string bytes) => bytes.length + 1
  | .lit _ => 1
  | .nil => 1
  | .ptr d => uptoBulk d + 1
  | .slice elems spare => uptoBulkAll elems + uptoBulkAll spare + 1
  | .agg parts => uptoBulkAll parts + 1
  | .iface _ d => uptoBulk d + 1
  | .map entries => uptoBulkEntries entries + 1
  | .held _ => 1
def uptoBulkAll {H : Type} : List (DataW H) → Nat
  | [] => 0
  | d :: r => uptoBulk d + uptoBulkAll r
def uptoBulkEntries {H : Type} : List (Lit × DataW H) → Nat
  | [] => 0
  | x :: r => uptoBulkEntry x + uptoBulkEntries r
def uptoBulkEntry {H : Type} : Lit × DataW H → Nat
  | (.string bytes, d) => bytes.length + uptoBulk d + 1
  | (_, d) => uptoBulk d + 1
 end
def uptoSmall : (H : Type) → List (DataW H) → Bool := fun _ ds => decide (uptoBulkAll ds ≤ 1048576)
def OpenSpec.upto (s : _root_.Go.ChangeSpec) : _root_.Go.OpenSpec := { _root_.Go.OpenSpec.ofChange s with cond := some uptoSmall }

/-- 'thuriblelaw12.ExpiryCounts', WHERE WHAT IT READS IS OF BULK AT MOST 1048576: true; the input reads as it did. -/
def expiryCountsUptoRow : OpenClaim := { program := "ytoojmcijldlinaa", sum := "bb85bb7d0a7f96a07b8dd731f6d1e22922648d0025daa3983ddede58e9d2f77b", func := "thurible/thuriblelaw12.ExpiryCounts", spec := "expiryCounts", apart := false, narrowed := true }
def ExpiryCountsUptoSaid : Prop := expiryCountsUptoRow.holds Try.pinned (OpenSpec.upto expiryCountsSpec)

/-- 'thuriblelaw13.FeeGrows', WHERE WHAT IT READS IS OF BULK AT MOST 1048576: true; the input reads as it did. -/
def feeGrowsUptoRow : OpenClaim := { program := "ytoojmcijldlinaa", sum := "bb85bb7d0a7f96a07b8dd731f6d1e22922648d0025daa3983ddede58e9d2f77b", func := "thurible/thuriblelaw13.FeeGrows", spec := "feeGrows", unfollowed := true, recurses := true, apart := false, narrowed := true }
def FeeGrowsUptoSaid : Prop := feeGrowsUptoRow.holds Try.pinned (OpenSpec.upto feeGrowsSpec)

/-- 'thuriblelaw13.FeeShares', WHERE WHAT IT READS IS OF BULK AT MOST 1048576: true; the input reads as it did. -/
def feeSharesUptoRow : OpenClaim := { program := "ytoojmcijldlinaa", sum := "bb85bb7d0a7f96a07b8dd731f6d1e22922648d0025daa3983ddede58e9d2f77b", func := "thurible/thuriblelaw13.FeeShares", spec := "feeShares", unfollowed := true, recurses := true, apart := false, narrowed := true }
def FeeSharesUptoSaid : Prop := feeSharesUptoRow.holds Try.pinned (OpenSpec.upto feeSharesSpec)

/-- 'thuriblelaw12.ExpiryTells', WHERE WHAT IT READS IS OF BULK AT MOST 1048576: true; the input reads as it did. -/
def expiryTellsUptoRow : OpenClaim := { program := "ytoojmcijldlinaa", sum := "bb85bb7d0a7f96a07b8dd731f6d1e22922648d0025daa3983ddede58e9d2f77b", func := "thurible/thuriblelaw12.ExpiryTells", spec := "expiryTells", apart := false, narrowed := true }
def ExpiryTellsUptoSaid : Prop := expiryTellsUptoRow.holds Try.pinned (OpenSpec.upto expiryTellsSpec)

/-- 'thuriblelaw12.ExpiryStays', WHERE WHAT IT READS IS OF BULK AT MOST 1048576: true; the input reads as it did. -/
def expiryStaysUptoRow : OpenClaim := { program := "ytoojmcijldlinaa", sum := "bb85bb7d0a7f96a07b8dd731f6d1e22922648d0025daa3983ddede58e9d2f77b", func := "thurible/thuriblelaw12.ExpiryStays", spec := "expiryStays", apart := false, narrowed := true }
def ExpiryStaysUptoSaid : Prop := expiryStaysUptoRow.holds Try.pinned (OpenSpec.upto expiryStaysSpec)

/-- 'thuriblelaw12.ExpiryNever', WHERE WHAT IT READS IS OF BULK AT MOST 1048576: true; the input reads as it did. -/
def expiryNeverUptoRow : OpenClaim := { program := "ytoojmcijldlinaa", sum := "bb85bb7d0a7f96a07b8dd731f6d1e22922648d0025daa3983ddede58e9d2f77b", func := "thurible/thuriblelaw12.ExpiryNever", spec := "expiryNever", apart := false, narrowed := true }
def ExpiryNeverUptoSaid : Prop := expiryNeverUptoRow.holds Try.pinned (OpenSpec.upto expiryNeverSpec)

/-- 'thuriblelaw13.FeeUnpaid', WHERE WHAT IT READS IS OF BULK AT MOST 1048576: true; the input reads as it did. -/
def feeUnpaidUptoRow : OpenClaim := { program := "ytoojmcijldlinaa", sum := "bb85bb7d0a7f96a07b8dd731f6d1e22922648d0025daa3983ddede58e9d2f77b", func := "thurible/thuriblelaw13.FeeUnpaid", spec := "feeUnpaid", unfollowed := true, recurses := true, apart := false, narrowed := true }
def FeeUnpaidUptoSaid : Prop := feeUnpaidUptoRow.holds Try.pinned (OpenSpec.upto feeUnpaidSpec)

/-- 'thuriblelaw13.FeeTells', WHERE WHAT IT READS IS OF BULK AT MOST 1048576: true; the input reads as it did. -/
def feeTellsUptoRow : OpenClaim := { program := "ytoojmcijldlinaa", sum := "bb85bb7d0a7f96a07b8dd731f6d1e22922648d0025daa3983ddede58e9d2f77b", func := "thurible/thuriblelaw13.FeeTells", spec := "feeTells", unfollowed := true, recurses := true, apart := false, narrowed := true }
def FeeTellsUptoSaid : Prop := feeTellsUptoRow.holds Try.pinned (OpenSpec.upto feeTellsSpec)

/-- 'thuriblelaw13.FeeRises', WHERE WHAT IT READS IS OF BULK AT MOST 1048576: true; the input reads as it did. -/
def feeRisesUptoRow : OpenClaim := { program := "ytoojmcijldlinaa", sum := "bb85bb7d0a7f96a07b8dd731f6d1e22922648d0025daa3983ddede58e9d2f77b", func := "thurible/thuriblelaw13.FeeRises", spec := "feeRises", unfollowed := true, recurses := true, apart := false, narrowed := true }
def FeeRisesUptoSaid : Prop := feeRisesUptoRow.holds Try.pinned (OpenSpec.upto feeRisesSpec)

/-- 'thuriblelaw13.FeeLeast', WHERE WHAT IT READS IS OF BULK AT MOST 1048576: true; the input reads as it did. -/
def feeLeastUptoRow : OpenClaim := { program := "ytoojmcijldlinaa", sum := "bb85bb7d0a7f96a07b8dd731f6d1e22922648d0025daa3983ddede58e9d2f77b", func := "thurible/thuriblelaw13.FeeLeast", spec := "feeLeast", unfollowed := true, recurses := true, apart := false, narrowed := true }
def FeeLeastUptoSaid : Prop := feeLeastUptoRow.holds Try.pinned (OpenSpec.upto feeLeastSpec)

end Rows
end Go.Proofs.Ytoojmcijldlinaa
