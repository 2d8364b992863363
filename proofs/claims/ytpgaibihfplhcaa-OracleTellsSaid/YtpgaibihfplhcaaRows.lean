/-
  No cell of these rows narrows 'for every input' (looked for: loops, veiled, ifaces, maps, wideKeys, modest, calm, conditions, laid).
  DERIVED. THE GIVEN ROWS OF THIS SEAT. 10 by the template 'for every input the law returns true; each argument reads behind the call as it read before'; 0 by the template 'total and deterministic' (their statements: YtpgaibihfplhcaaTotals.lean).
  GIVEN WITH THE SEED: the statements are not yours to turn. If you find one false, say at which input.
  Laid BY PROGRAM, IN A SANDBOX (cutbox-rows.mjs): the forced cells as the released guide's own fill.sh prints them over the translation 05e0a1b63fa09c97… (all of the seat's roots in one cut). By AI agents, Wed Nov 11 2026. No macro, syntax, notation, axiom, sorry.
-/
import Derived.Test.YtpgaibihfplhcaaChecked
import GoSem.Claim
import GoSem.ClaimJoined
import GoSem.ClaimMapViews
import Derived.JoinedTies
import Derived.KernelRfl
namespace Go.Proofs.Ytpgaibihfplhcaa
/- THE CELL 'sum', in the pinned program and in every row, IS THE sha256 OF THE DUMP (.gsa) THAT YtpgaibihfplhcaaProg.lean LOADS. Nothing in Lean hashes anything: it is a label: what it is worth is what the hold of that sum in a sandbox is worth. -/
noncomputable def Try.pinned : Pinned := { name := "ytpgaibihfplhcaa", sum := "05e0a1b63fa09c97ecf5550a0e2a3f91712bfe4ff6575707b8f124cbe41b36fb", checked := Try.checked }
namespace Rows
def none {H : Type} : Left H := { results := [], args := [] }

/-- 'thuriblelaw08.AnchorOld': WHATEVER THE INPUT: true; the input reads as it did. -/
def anchorOldSpec : ChangeSpec := { name := "anchorOld", fn := fun _ => fun
  | [d1, d2] => { results := [.lit (.bool true)], args := [d1, d2] }
  | _ => none }
def anchorOldRow : OpenClaim := { program := "ytpgaibihfplhcaa", sum := "05e0a1b63fa09c97ecf5550a0e2a3f91712bfe4ff6575707b8f124cbe41b36fb", func := "thurible/thuriblelaw08.AnchorOld", spec := "anchorOld", unfollowed := true, recurses := true, apart := false }
def AnchorOldSaid : Prop := anchorOldRow.holds Try.pinned (OpenSpec.ofChange anchorOldSpec)

/-- ITS FALSE NEIGHBOUR: 'it returns false'. Refute it at one input. -/
def anchorOldWrong : ChangeSpec := { name := "anchorOld", fn := fun _ => fun
  | [d1, d2] => { results := [.lit (.bool false)], args := [d1, d2] }
  | _ => none }
def AnchorOldWrongFalsely : Prop := anchorOldRow.holds Try.pinned (OpenSpec.ofChange anchorOldWrong)

/-- 'thuriblelaw08.AnchorSame': WHATEVER THE INPUT: true; the input reads as it did. -/
def anchorSameSpec : ChangeSpec := { name := "anchorSame", fn := fun _ => fun
  | [d1, d2, d3] => { results := [.lit (.bool true)], args := [d1, d2, d3] }
  | _ => none }
def anchorSameRow : OpenClaim := { program := "ytpgaibihfplhcaa", sum := "05e0a1b63fa09c97ecf5550a0e2a3f91712bfe4ff6575707b8f124cbe41b36fb", func := "thurible/thuriblelaw08.AnchorSame", spec := "anchorSame", unfollowed := true, recurses := true, apart := false }
def AnchorSameSaid : Prop := anchorSameRow.holds Try.pinned (OpenSpec.ofChange anchorSameSpec)

/-- ITS FALSE NEIGHBOUR: 'it returns false'. Refute it at one input. -/
def anchorSameWrong : ChangeSpec := { name := "anchorSame", fn := fun _ => fun
  | [d1, d2, d3] => { results := [.lit (.bool false)], args := [d1, d2, d3] }
  | _ => none }
def AnchorSameWrongFalsely : Prop := anchorSameRow.holds Try.pinned (OpenSpec.ofChange anchorSameWrong)

/-- 'thuriblelaw08.AnchorWindow': WHATEVER THE INPUT: true; the input reads as it did. -/
def anchorWindowSpec : ChangeSpec := { name := "anchorWindow", fn := fun _ => fun
  | [d1, d2, d3] => { results := [.lit (.bool true)], args := [d1, d2, d3] }
  | _ => none }
def anchorWindowRow : OpenClaim := { program := "ytpgaibihfplhcaa", sum := "05e0a1b63fa09c97ecf5550a0e2a3f91712bfe4ff6575707b8f124cbe41b36fb", func := "thurible/thuriblelaw08.AnchorWindow", spec := "anchorWindow", unfollowed := true, recurses := true, apart := false }
def AnchorWindowSaid : Prop := anchorWindowRow.holds Try.pinned (OpenSpec.ofChange anchorWindowSpec)

/-- ITS FALSE NEIGHBOUR: 'it returns false'. Refute it at one input. -/
def anchorWindowWrong : ChangeSpec := { name := "anchorWindow", fn := fun _ => fun
  | [d1, d2, d3] => { results := [.lit (.bool false)], args := [d1, d2, d3] }
  | _ => none }
def AnchorWindowWrongFalsely : Prop := anchorWindowRow.holds Try.pinned (OpenSpec.ofChange anchorWindowWrong)

/-- 'thuriblelaw15.OracleGood': WHATEVER THE INPUT: true; the input reads as it did. -/
def oracleGoodSpec : ChangeSpec := { name := "oracleGood", fn := fun _ => fun
  | [d1, d2, d3, d4] => { results := [.lit (.bool true)], args := [d1, d2, d3, d4] }
  | _ => none }
def oracleGoodRow : OpenClaim := { program := "ytpgaibihfplhcaa", sum := "05e0a1b63fa09c97ecf5550a0e2a3f91712bfe4ff6575707b8f124cbe41b36fb", func := "thurible/thuriblelaw15.OracleGood", spec := "oracleGood", apart := false }
def OracleGoodSaid : Prop := oracleGoodRow.holds Try.pinned (OpenSpec.ofChange oracleGoodSpec)

/-- ITS FALSE NEIGHBOUR: 'it returns false'. Refute it at one input. -/
def oracleGoodWrong : ChangeSpec := { name := "oracleGood", fn := fun _ => fun
  | [d1, d2, d3, d4] => { results := [.lit (.bool false)], args := [d1, d2, d3, d4] }
  | _ => none }
def OracleGoodWrongFalsely : Prop := oracleGoodRow.holds Try.pinned (OpenSpec.ofChange oracleGoodWrong)

/-- 'thuriblelaw15.OracleFirst': WHATEVER THE INPUT: true; the input reads as it did. -/
def oracleFirstSpec : ChangeSpec := { name := "oracleFirst", fn := fun _ => fun
  | [d1, d2, d3, d4, d5] => { results := [.lit (.bool true)], args := [d1, d2, d3, d4, d5] }
  | _ => none }
def oracleFirstRow : OpenClaim := { program := "ytpgaibihfplhcaa", sum := "05e0a1b63fa09c97ecf5550a0e2a3f91712bfe4ff6575707b8f124cbe41b36fb", func := "thurible/thuriblelaw15.OracleFirst", spec := "oracleFirst", apart := false }
def OracleFirstSaid : Prop := oracleFirstRow.holds Try.pinned (OpenSpec.ofChange oracleFirstSpec)

/-- ITS FALSE NEIGHBOUR: 'it returns false'. Refute it at one input. -/
def oracleFirstWrong : ChangeSpec := { name := "oracleFirst", fn := fun _ => fun
  | [d1, d2, d3, d4, d5] => { results := [.lit (.bool false)], args := [d1, d2, d3, d4, d5] }
  | _ => none }
def OracleFirstWrongFalsely : Prop := oracleFirstRow.holds Try.pinned (OpenSpec.ofChange oracleFirstWrong)

/-- 'thuriblelaw15.OracleTells': WHATEVER THE INPUT: true; the input reads as it did. -/
def oracleTellsSpec : ChangeSpec := { name := "oracleTells", fn := fun _ => fun
  | [d1, d2, d3, d4, d5] => { results := [.lit (.bool true)], args := [d1, d2, d3, d4, d5] }
  | _ => none }
def oracleTellsRow : OpenClaim := { program := "ytpgaibihfplhcaa", sum := "05e0a1b63fa09c97ecf5550a0e2a3f91712bfe4ff6575707b8f124cbe41b36fb", func := "thurible/thuriblelaw15.OracleTells", spec := "oracleTells", apart := false }
def OracleTellsSaid : Prop := oracleTellsRow.holds Try.pinned (OpenSpec.ofChange oracleTellsSpec)

/-- ITS FALSE NEIGHBOUR: 'it returns false'. Refute it at one input. -/
def oracleTellsWrong : ChangeSpec := { name := "oracleTells", fn := fun _ => fun
  | [d1, d2, d3, d4, d5] => { results := [.lit (.bool false)], args := [d1, d2, d3, d4, d5] }
  | _ => none }
def OracleTellsWrongFalsely : Prop := oracleTellsRow.holds Try.pinned (OpenSpec.ofChange oracleTellsWrong)

/-- 'thuriblelaw15.OracleItems': WHATEVER THE INPUT: true; the input reads as it did. -/
def oracleItemsSpec : ChangeSpec := { name := "oracleItems", fn := fun _ => fun
  | [d1, d2, d3, d4] => { results := [.lit (.bool true)], args := [d1, d2, d3, d4] }
  | _ => none }
def oracleItemsRow : OpenClaim := { program := "ytpgaibihfplhcaa", sum := "05e0a1b63fa09c97ecf5550a0e2a3f91712bfe4ff6575707b8f124cbe41b36fb", func := "thurible/thuriblelaw15.OracleItems", spec := "oracleItems", apart := false }
def OracleItemsSaid : Prop := oracleItemsRow.holds Try.pinned (OpenSpec.ofChange oracleItemsSpec)

/-- ITS FALSE NEIGHBOUR: 'it returns false'. Refute it at one input. -/
def oracleItemsWrong : ChangeSpec := { name := "oracleItems", fn := fun _ => fun
  | [d1, d2, d3, d4] => { results := [.lit (.bool false)], args := [d1, d2, d3, d4] }
  | _ => none }
def OracleItemsWrongFalsely : Prop := oracleItemsRow.holds Try.pinned (OpenSpec.ofChange oracleItemsWrong)

/-- 'thuriblelaw08.AnchorBack': WHATEVER THE INPUT: true; the input reads as it did. -/
def anchorBackSpec : ChangeSpec := { name := "anchorBack", fn := fun _ => fun
  | [d1, d2, d3] => { results := [.lit (.bool true)], args := [d1, d2, d3] }
  | _ => none }
def anchorBackRow : OpenClaim := { program := "ytpgaibihfplhcaa", sum := "05e0a1b63fa09c97ecf5550a0e2a3f91712bfe4ff6575707b8f124cbe41b36fb", func := "thurible/thuriblelaw08.AnchorBack", spec := "anchorBack", unfollowed := true, recurses := true, apart := false }
def AnchorBackSaid : Prop := anchorBackRow.holds Try.pinned (OpenSpec.ofChange anchorBackSpec)

/-- ITS FALSE NEIGHBOUR: 'it returns false'. Refute it at one input. -/
def anchorBackWrong : ChangeSpec := { name := "anchorBack", fn := fun _ => fun
  | [d1, d2, d3] => { results := [.lit (.bool false)], args := [d1, d2, d3] }
  | _ => none }
def AnchorBackWrongFalsely : Prop := anchorBackRow.holds Try.pinned (OpenSpec.ofChange anchorBackWrong)

/-- 'thuriblelaw08.AnchorTells': WHATEVER THE INPUT: true; the input reads as it did. -/
def anchorTellsSpec : ChangeSpec := { name := "anchorTells", fn := fun _ => fun
  | [d1, d2] => { results := [.lit (.bool true)], args := [d1, d2] }
  | _ => none }
def anchorTellsRow : OpenClaim := { program := "ytpgaibihfplhcaa", sum := "05e0a1b63fa09c97ecf5550a0e2a3f91712bfe4ff6575707b8f124cbe41b36fb", func := "thurible/thuriblelaw08.AnchorTells", spec := "anchorTells", unfollowed := true, recurses := true, apart := false }
def AnchorTellsSaid : Prop := anchorTellsRow.holds Try.pinned (OpenSpec.ofChange anchorTellsSpec)

/-- ITS FALSE NEIGHBOUR: 'it returns false'. Refute it at one input. -/
def anchorTellsWrong : ChangeSpec := { name := "anchorTells", fn := fun _ => fun
  | [d1, d2] => { results := [.lit (.bool false)], args := [d1, d2] }
  | _ => none }
def AnchorTellsWrongFalsely : Prop := anchorTellsRow.holds Try.pinned (OpenSpec.ofChange anchorTellsWrong)

/-- 'thuriblelaw08.AnchorEmpty': WHATEVER THE INPUT: true; the input reads as it did. -/
def anchorEmptySpec : ChangeSpec := { name := "anchorEmpty", fn := fun _ => fun
  | [d] => { results := [.lit (.bool true)], args := [d] }
  | _ => none }
def anchorEmptyRow : OpenClaim := { program := "ytpgaibihfplhcaa", sum := "05e0a1b63fa09c97ecf5550a0e2a3f91712bfe4ff6575707b8f124cbe41b36fb", func := "thurible/thuriblelaw08.AnchorEmpty", spec := "anchorEmpty", unfollowed := true, recurses := true, apart := false }
def AnchorEmptySaid : Prop := anchorEmptyRow.holds Try.pinned (OpenSpec.ofChange anchorEmptySpec)

/-- ITS FALSE NEIGHBOUR: 'it returns false'. Refute it at one input. -/
def anchorEmptyWrong : ChangeSpec := { name := "anchorEmpty", fn := fun _ => fun
  | [d] => { results := [.lit (.bool false)], args := [d] }
  | _ => none }
def AnchorEmptyWrongFalsely : Prop := anchorEmptyRow.holds Try.pinned (OpenSpec.ofChange anchorEmptyWrong)

/- THE SECOND FORM. 'bulk': how many values and letters a reading holds, each counted each time it is reached (what is shared counts as often as it is met; a slice's spare places count too). A statement '..UptoSaid' is the law's where the arguments, and the package variables that the reading takes, are together of bulk at most 1048576: NARROWER than '..Said'. Prove '..Said' where nothing that the law and all that it calls make is longer than what came in: it says more and counts as full. Else prove '..UptoSaid'. A law counts once. -/
mutual
def uptoBulk {H : Type} : DataW H → Nat
  | .lit (.string bytes) => bytes.length + 1
  | .lit _ => 1
  | .nil => 1
  | .ptr d => uptoBulk d + 1
  | .slice elems spare => uptoBulkAll elems + uptoBulkAll spare + 1
  | .agg parts => uptoBulkAll parts + 1
  | .iface _ d => uptoBulk d + 1
  | .map entries => uptoBulkEntries entries + 1
  | .held _ => 1
def uptoBulkAll {H : Type} : List (DataW H) → Nat
  | [] => 0
  | d :: r => uptoBulk d + uptoBulkAll r
def uptoBulkEntries {H : Type} : List (Lit × DataW H) → Nat
  | [] => 0
  | x :: r => uptoBulkEntry x + uptoBulkEntries r
def uptoBulkEntry {H : Type} : Lit × DataW H → Nat
  | (.string bytes, d) => bytes.length + uptoBulk d + 1
  | (_, d) => uptoBulk d + 1
 end
def uptoSmall : (H : Type) → List (DataW H) → Bool := fun _ ds => decide (uptoBulkAll ds ≤ 1048576)
def OpenSpec.upto (s : _root_.Go.ChangeSpec) : _root_.Go.OpenSpec := { _root_.Go.OpenSpec.ofChange s with cond := some uptoSmall }

/-- 'thuriblelaw08.AnchorOld', WHERE WHAT IT READS IS OF BULK AT MOST 1048576: true; the input reads as it did. -/
def anchorOldUptoRow : OpenClaim := { program := "ytpgaibihfplhcaa", sum := "05e0a1b63fa09c97ecf5550a0e2a3f91712bfe4ff6575707b8f124cbe41b36fb", func := "thurible/thuriblelaw08.AnchorOld", spec := "anchorOld", unfollowed := true, recurses := true, apart := false, narrowed := true }
def AnchorOldUptoSaid : Prop := anchorOldUptoRow.holds Try.pinned (OpenSpec.upto anchorOldSpec)

/-- 'thuriblelaw08.AnchorSame', WHERE WHAT IT READS IS OF BULK AT MOST 1048576: true; the input reads as it did. -/
def anchorSameUptoRow : OpenClaim := { program := "ytpgaibihfplhcaa", sum := "05e0a1b63fa09c97ecf5550a0e2a3f91712bfe4ff6575707b8f124cbe41b36fb", func := "thurible/thuriblelaw08.AnchorSame", spec := "anchorSame", unfollowed := true, recurses := true, apart := false, narrowed := true }
def AnchorSameUptoSaid : Prop := anchorSameUptoRow.holds Try.pinned (OpenSpec.upto anchorSameSpec)

/-- 'thuriblelaw08.AnchorWindow', WHERE WHAT IT READS IS OF BULK AT MOST 1048576: true; the input reads as it did. -/
def anchorWindowUptoRow : OpenClaim := { program := "ytpgaibihfplhcaa", sum := "05e0a1b63fa09c97ecf5550a0e2a3f91712bfe4ff6575707b8f124cbe41b36fb", func := "thurible/thuriblelaw08.AnchorWindow", spec := "anchorWindow", unfollowed := true, recurses := true, apart := false, narrowed := true }
def AnchorWindowUptoSaid : Prop := anchorWindowUptoRow.holds Try.pinned (OpenSpec.upto anchorWindowSpec)

/-- 'thuriblelaw15.OracleGood', WHERE WHAT IT READS IS OF BULK AT MOST 1048576: true; the input reads as it did. -/
def oracleGoodUptoRow : OpenClaim := { program := "ytpgaibihfplhcaa", sum := "05e0a1b63fa09c97ecf5550a0e2a3f91712bfe4ff6575707b8f124cbe41b36fb", func := "thurible/thuriblelaw15.OracleGood", spec := "oracleGood", apart := false, narrowed := true }
def OracleGoodUptoSaid : Prop := oracleGoodUptoRow.holds Try.pinned (OpenSpec.upto oracleGoodSpec)

/-- 'thuriblelaw15.OracleFirst', WHERE WHAT IT READS IS OF BULK AT MOST 1048576: true; the input reads as it did. -/
def oracleFirstUptoRow : OpenClaim := { program := "ytpgaibihfplhcaa", sum := "05e0a1b63fa09c97ecf5550a0e2a3f91712bfe4ff6575707b8f124cbe41b36fb", func := "thurible/thuriblelaw15.OracleFirst", spec := "oracleFirst", apart := false, narrowed := true }
def OracleFirstUptoSaid : Prop := oracleFirstUptoRow.holds Try.pinned (OpenSpec.upto oracleFirstSpec)

/-- 'thuriblelaw15.OracleTells', WHERE WHAT IT READS IS OF BULK AT MOST 1048576: true; the input reads as it did. -/
def oracleTellsUptoRow : OpenClaim := { program := "ytpgaibihfplhcaa", sum := "05e0a1b63fa09c97ecf5550a0e2a3f91712bfe4ff6575707b8f124cbe41b36fb", func := "thurible/thuriblelaw15.OracleTells", spec := "oracleTells", apart := false, narrowed := true }
def OracleTellsUptoSaid : Prop := oracleTellsUptoRow.holds Try.pinned (OpenSpec.upto oracleTellsSpec)

/-- 'thuriblelaw15.OracleItems', WHERE WHAT IT READS IS OF BULK AT MOST 1048576: true; the input reads as it did. -/
def oracleItemsUptoRow : OpenClaim := { program := "ytpgaibihfplhcaa", sum := "05e0a1b63fa09c97ecf5550a0e2a3f91712bfe4ff6575707b8f124cbe41b36fb", func := "thurible/thuriblelaw15.OracleItems", spec := "oracleItems", apart := false, narrowed := true }
def OracleItemsUptoSaid : Prop := oracleItemsUptoRow.holds Try.pinned (OpenSpec.upto oracleItemsSpec)

/-- 'thuriblelaw08.AnchorBack', WHERE WHAT IT READS IS OF BULK AT MOST 1048576: true; the input reads as it did. -/
def anchorBackUptoRow : OpenClaim := { program := "ytpgaibihfplhcaa", sum := "05e0a1b63fa09c97ecf5550a0e2a3f91712bfe4ff6575707b8f124cbe41b36fb", func := "thurible/thuriblelaw08.AnchorBack", spec := "anchorBack", unfollowed := true, recurses := true, apart := false, narrowed := true }
def AnchorBackUptoSaid : Prop := anchorBackUptoRow.holds Try.pinned (OpenSpec.upto anchorBackSpec)

/-- 'thuriblelaw08.AnchorTells', WHERE WHAT IT READS IS OF BULK AT MOST 1048576: true; the input reads as it did. -/
def anchorTellsUptoRow : OpenClaim := { program := "ytpgaibihfplhcaa", sum := "05e0a1b63fa09c97ecf5550a0e2a3f91712bfe4ff6575707b8f124cbe41b36fb", func := "thurible/thuriblelaw08.AnchorTells", spec := "anchorTells", unfollowed := true, recurses := true, apart := false, narrowed := true }
def AnchorTellsUptoSaid : Prop := anchorTellsUptoRow.holds Try.pinned (OpenSpec.upto anchorTellsSpec)

/-- 'thuriblelaw08.AnchorEmpty', WHERE WHAT IT READS IS OF BULK AT MOST 1048576: true; the input reads as it did. -/
def anchorEmptyUptoRow : OpenClaim := { program := "ytpgaibihfplhcaa", sum := "05e0a1b63fa09c97ecf5550a0e2a3f91712bfe4ff6575707b8f124cbe41b36fb", func := "thurible/thuriblelaw08.AnchorEmpty", spec := "anchorEmpty", unfollowed := true, recurses := true, apart := false, narrowed := true }
def AnchorEmptyUptoSaid : Prop := anchorEmptyUptoRow.holds Try.pinned (OpenSpec.upto anchorEmptySpec)

end Rows
end Go.Proofs.Ytpgaibihfplhcaa
