/-
  No cell of these rows narrows 'for every input' (looked for: loops, veiled, ifaces, maps, wideKeys, modest, calm, conditions, laid).
  DERIVED. THE GIVEN ROWS OF THIS SEAT. 11 by the template 'for every input the law returns true; each argument reads behind the call as it read before'; 0 by the template 'total and deterministic' (their statements: YtbpipnjdfmpbdaaTotals.lean).
  GIVEN WITH THE SEED: the statements are not yours to turn. If you find one false, say at which input.
  Laid BY PROGRAM, IN A SANDBOX (cutbox-rows.mjs): the forced cells as the released guide's own fill.sh prints them over the translation 277ff9bfb1c7269e… (all of the seat's roots in one cut). By AI agents, Wed Nov 11 2026. No macro, syntax, notation, axiom, sorry.
-/
import Derived.Test.YtbpipnjdfmpbdaaChecked
import GoSem.Claim
import GoSem.ClaimJoined
import GoSem.ClaimMapViews
import Derived.JoinedTies
import Derived.KernelRfl
namespace Go.Proofs.Ytbpipnjdfmpbdaa
/- THE CELL 'sum', in the pinned program and in every row, IS THE sha256 OF THE DUMP (.gsa) THAT YtbpipnjdfmpbdaaProg.lean LOADS. Nothing in Lean hashes anything: it is a label: what it is worth is what the hold of that sum in a sandbox is worth. -/
noncomputable def Try.pinned : Pinned := { name := "ytbpipnjdfmpbdaa", sum := "277ff9bfb1c7269ebf048532b0abc6311fbce2e1e1364d9845da67856cb357d3", checked := Try.checked }
namespace Rows
def none {H : Type} : Left H := { results := [], args := [] }

/-- 'bywaylaw07.RegexParses': WHATEVER THE INPUT: true; the input reads as it did. -/
def regexParsesSpec : ChangeSpec := { name := "regexParses", fn := fun _ => fun
  | [d] => { results := [.lit (.bool true)], args := [d] }
  | _ => none }
def regexParsesRow : OpenClaim := { program := "ytbpipnjdfmpbdaa", sum := "277ff9bfb1c7269ebf048532b0abc6311fbce2e1e1364d9845da67856cb357d3", func := "byway/bywaylaw07.RegexParses", spec := "regexParses", inPlace := ["internal/abi.NoEscape", "internal/bytealg.MakeNoZero"], unfollowed := true, recurses := true, apart := false }
def RegexParsesSaid : Prop := regexParsesRow.holds Try.pinned (OpenSpec.ofChange regexParsesSpec)

/-- ITS FALSE NEIGHBOUR: 'it returns false'. Refute it at one input. -/
def regexParsesWrong : ChangeSpec := { name := "regexParses", fn := fun _ => fun
  | [d] => { results := [.lit (.bool false)], args := [d] }
  | _ => none }
def RegexParsesWrongFalsely : Prop := regexParsesRow.holds Try.pinned (OpenSpec.ofChange regexParsesWrong)

/-- 'bywaylaw07.RegexReads': WHATEVER THE INPUT: true; the input reads as it did. -/
def regexReadsSpec : ChangeSpec := { name := "regexReads", fn := fun _ => fun
  | [d] => { results := [.lit (.bool true)], args := [d] }
  | _ => none }
def regexReadsRow : OpenClaim := { program := "ytbpipnjdfmpbdaa", sum := "277ff9bfb1c7269ebf048532b0abc6311fbce2e1e1364d9845da67856cb357d3", func := "byway/bywaylaw07.RegexReads", spec := "regexReads", inPlace := ["internal/abi.NoEscape", "internal/bytealg.MakeNoZero"], unfollowed := true, recurses := true, apart := false }
def RegexReadsSaid : Prop := regexReadsRow.holds Try.pinned (OpenSpec.ofChange regexReadsSpec)

/-- ITS FALSE NEIGHBOUR: 'it returns false'. Refute it at one input. -/
def regexReadsWrong : ChangeSpec := { name := "regexReads", fn := fun _ => fun
  | [d] => { results := [.lit (.bool false)], args := [d] }
  | _ => none }
def RegexReadsWrongFalsely : Prop := regexReadsRow.holds Try.pinned (OpenSpec.ofChange regexReadsWrong)

/-- 'bywaylaw07.RegexCuts': WHATEVER THE INPUT: true; the input reads as it did. -/
def regexCutsSpec : ChangeSpec := { name := "regexCuts", fn := fun _ => fun
  | [d1, d2] => { results := [.lit (.bool true)], args := [d1, d2] }
  | _ => none }
def regexCutsRow : OpenClaim := { program := "ytbpipnjdfmpbdaa", sum := "277ff9bfb1c7269ebf048532b0abc6311fbce2e1e1364d9845da67856cb357d3", func := "byway/bywaylaw07.RegexCuts", spec := "regexCuts", inPlace := ["internal/abi.NoEscape", "internal/bytealg.MakeNoZero"], unfollowed := true, recurses := true, apart := false }
def RegexCutsSaid : Prop := regexCutsRow.holds Try.pinned (OpenSpec.ofChange regexCutsSpec)

/-- ITS FALSE NEIGHBOUR: 'it returns false'. Refute it at one input. -/
def regexCutsWrong : ChangeSpec := { name := "regexCuts", fn := fun _ => fun
  | [d1, d2] => { results := [.lit (.bool false)], args := [d1, d2] }
  | _ => none }
def RegexCutsWrongFalsely : Prop := regexCutsRow.holds Try.pinned (OpenSpec.ofChange regexCutsWrong)

/-- 'bywaylaw07.RegexNames': WHATEVER THE INPUT: true; the input reads as it did. -/
def regexNamesSpec : ChangeSpec := { name := "regexNames", fn := fun _ => fun
  | [d1, d2] => { results := [.lit (.bool true)], args := [d1, d2] }
  | _ => none }
def regexNamesRow : OpenClaim := { program := "ytbpipnjdfmpbdaa", sum := "277ff9bfb1c7269ebf048532b0abc6311fbce2e1e1364d9845da67856cb357d3", func := "byway/bywaylaw07.RegexNames", spec := "regexNames", inPlace := ["internal/abi.NoEscape", "internal/bytealg.MakeNoZero"], unfollowed := true, recurses := true, apart := false }
def RegexNamesSaid : Prop := regexNamesRow.holds Try.pinned (OpenSpec.ofChange regexNamesSpec)

/-- ITS FALSE NEIGHBOUR: 'it returns false'. Refute it at one input. -/
def regexNamesWrong : ChangeSpec := { name := "regexNames", fn := fun _ => fun
  | [d1, d2] => { results := [.lit (.bool false)], args := [d1, d2] }
  | _ => none }
def RegexNamesWrongFalsely : Prop := regexNamesRow.holds Try.pinned (OpenSpec.ofChange regexNamesWrong)

/-- 'bywaylaw07.RegexPrints': WHATEVER THE INPUT: true; the input reads as it did. -/
def regexPrintsSpec : ChangeSpec := { name := "regexPrints", fn := fun _ => fun
  | [d] => { results := [.lit (.bool true)], args := [d] }
  | _ => none }
def regexPrintsRow : OpenClaim := { program := "ytbpipnjdfmpbdaa", sum := "277ff9bfb1c7269ebf048532b0abc6311fbce2e1e1364d9845da67856cb357d3", func := "byway/bywaylaw07.RegexPrints", spec := "regexPrints", inPlace := ["internal/abi.NoEscape", "internal/bytealg.MakeNoZero"], unfollowed := true, recurses := true, apart := false }
def RegexPrintsSaid : Prop := regexPrintsRow.holds Try.pinned (OpenSpec.ofChange regexPrintsSpec)

/-- ITS FALSE NEIGHBOUR: 'it returns false'. Refute it at one input. -/
def regexPrintsWrong : ChangeSpec := { name := "regexPrints", fn := fun _ => fun
  | [d] => { results := [.lit (.bool false)], args := [d] }
  | _ => none }
def RegexPrintsWrongFalsely : Prop := regexPrintsRow.holds Try.pinned (OpenSpec.ofChange regexPrintsWrong)

/-- 'bywaylaw07.RegexRound': WHATEVER THE INPUT: true; the input reads as it did. -/
def regexRoundSpec : ChangeSpec := { name := "regexRound", fn := fun _ => fun
  | [d] => { results := [.lit (.bool true)], args := [d] }
  | _ => none }
def regexRoundRow : OpenClaim := { program := "ytbpipnjdfmpbdaa", sum := "277ff9bfb1c7269ebf048532b0abc6311fbce2e1e1364d9845da67856cb357d3", func := "byway/bywaylaw07.RegexRound", spec := "regexRound", inPlace := ["internal/abi.NoEscape", "internal/bytealg.MakeNoZero"], unfollowed := true, recurses := true, apart := false }
def RegexRoundSaid : Prop := regexRoundRow.holds Try.pinned (OpenSpec.ofChange regexRoundSpec)

/-- ITS FALSE NEIGHBOUR: 'it returns false'. Refute it at one input. -/
def regexRoundWrong : ChangeSpec := { name := "regexRound", fn := fun _ => fun
  | [d] => { results := [.lit (.bool false)], args := [d] }
  | _ => none }
def RegexRoundWrongFalsely : Prop := regexRoundRow.holds Try.pinned (OpenSpec.ofChange regexRoundWrong)

/-- 'bywaylaw07.RegexAgain': WHATEVER THE INPUT: true; the input reads as it did. -/
def regexAgainSpec : ChangeSpec := { name := "regexAgain", fn := fun _ => fun
  | [d] => { results := [.lit (.bool true)], args := [d] }
  | _ => none }
def regexAgainRow : OpenClaim := { program := "ytbpipnjdfmpbdaa", sum := "277ff9bfb1c7269ebf048532b0abc6311fbce2e1e1364d9845da67856cb357d3", func := "byway/bywaylaw07.RegexAgain", spec := "regexAgain", inPlace := ["internal/abi.NoEscape", "internal/bytealg.MakeNoZero"], unfollowed := true, recurses := true, apart := false }
def RegexAgainSaid : Prop := regexAgainRow.holds Try.pinned (OpenSpec.ofChange regexAgainSpec)

/-- ITS FALSE NEIGHBOUR: 'it returns false'. Refute it at one input. -/
def regexAgainWrong : ChangeSpec := { name := "regexAgain", fn := fun _ => fun
  | [d] => { results := [.lit (.bool false)], args := [d] }
  | _ => none }
def RegexAgainWrongFalsely : Prop := regexAgainRow.holds Try.pinned (OpenSpec.ofChange regexAgainWrong)

/-- 'bywaylaw07.RegexTurns': WHATEVER THE INPUT: true; the input reads as it did. -/
def regexTurnsSpec : ChangeSpec := { name := "regexTurns", fn := fun _ => fun
  | [d] => { results := [.lit (.bool true)], args := [d] }
  | _ => none }
def regexTurnsRow : OpenClaim := { program := "ytbpipnjdfmpbdaa", sum := "277ff9bfb1c7269ebf048532b0abc6311fbce2e1e1364d9845da67856cb357d3", func := "byway/bywaylaw07.RegexTurns", spec := "regexTurns", inPlace := ["internal/abi.NoEscape", "internal/bytealg.MakeNoZero"], unfollowed := true, recurses := true, apart := false }
def RegexTurnsSaid : Prop := regexTurnsRow.holds Try.pinned (OpenSpec.ofChange regexTurnsSpec)

/-- ITS FALSE NEIGHBOUR: 'it returns false'. Refute it at one input. -/
def regexTurnsWrong : ChangeSpec := { name := "regexTurns", fn := fun _ => fun
  | [d] => { results := [.lit (.bool false)], args := [d] }
  | _ => none }
def RegexTurnsWrongFalsely : Prop := regexTurnsRow.holds Try.pinned (OpenSpec.ofChange regexTurnsWrong)

/-- 'bywaylaw07.RegexChecks': WHATEVER THE INPUT: true; the input reads as it did. -/
def regexChecksSpec : ChangeSpec := { name := "regexChecks", fn := fun _ => fun
  | [d] => { results := [.lit (.bool true)], args := [d] }
  | _ => none }
def regexChecksRow : OpenClaim := { program := "ytbpipnjdfmpbdaa", sum := "277ff9bfb1c7269ebf048532b0abc6311fbce2e1e1364d9845da67856cb357d3", func := "byway/bywaylaw07.RegexChecks", spec := "regexChecks", inPlace := ["internal/abi.NoEscape", "internal/bytealg.MakeNoZero"], unfollowed := true, recurses := true, apart := false }
def RegexChecksSaid : Prop := regexChecksRow.holds Try.pinned (OpenSpec.ofChange regexChecksSpec)

/-- ITS FALSE NEIGHBOUR: 'it returns false'. Refute it at one input. -/
def regexChecksWrong : ChangeSpec := { name := "regexChecks", fn := fun _ => fun
  | [d] => { results := [.lit (.bool false)], args := [d] }
  | _ => none }
def RegexChecksWrongFalsely : Prop := regexChecksRow.holds Try.pinned (OpenSpec.ofChange regexChecksWrong)

/-- 'bywaylaw07.RegexMatches': WHATEVER THE INPUT: true; the input reads as it did. -/
def regexMatchesSpec : ChangeSpec := { name := "regexMatches", fn := fun _ => fun
  | [d1, d2] => { results := [.lit (.bool true)], args := [d1, d2] }
  | _ => none }
def regexMatchesRow : OpenClaim := { program := "ytbpipnjdfmpbdaa", sum := "277ff9bfb1c7269ebf048532b0abc6311fbce2e1e1364d9845da67856cb357d3", func := "byway/bywaylaw07.RegexMatches", spec := "regexMatches", inPlace := ["internal/abi.NoEscape", "internal/bytealg.MakeNoZero"], unfollowed := true, recurses := true, apart := false }
def RegexMatchesSaid : Prop := regexMatchesRow.holds Try.pinned (OpenSpec.ofChange regexMatchesSpec)

/-- ITS FALSE NEIGHBOUR: 'it returns false'. Refute it at one input. -/
def regexMatchesWrong : ChangeSpec := { name := "regexMatches", fn := fun _ => fun
  | [d1, d2] => { results := [.lit (.bool false)], args := [d1, d2] }
  | _ => none }
def RegexMatchesWrongFalsely : Prop := regexMatchesRow.holds Try.pinned (OpenSpec.ofChange regexMatchesWrong)

/-- 'bywaylaw07.RegexSplits': WHATEVER THE INPUT: true; the input reads as it did. -/
def regexSplitsSpec : ChangeSpec := { name := "regexSplits", fn := fun _ => fun
  | [d1, d2, d3] => { results := [.lit (.bool true)], args := [d1, d2, d3] }
  | _ => none }
def regexSplitsRow : OpenClaim := { program := "ytbpipnjdfmpbdaa", sum := "277ff9bfb1c7269ebf048532b0abc6311fbce2e1e1364d9845da67856cb357d3", func := "byway/bywaylaw07.RegexSplits", spec := "regexSplits", inPlace := ["internal/abi.NoEscape", "internal/bytealg.MakeNoZero"], unfollowed := true, recurses := true, apart := false }
def RegexSplitsSaid : Prop := regexSplitsRow.holds Try.pinned (OpenSpec.ofChange regexSplitsSpec)

/-- ITS FALSE NEIGHBOUR: 'it returns false'. Refute it at one input. -/
def regexSplitsWrong : ChangeSpec := { name := "regexSplits", fn := fun _ => fun
  | [d1, d2, d3] => { results := [.lit (.bool false)], args := [d1, d2, d3] }
  | _ => none }
def RegexSplitsWrongFalsely : Prop := regexSplitsRow.holds Try.pinned (OpenSpec.ofChange regexSplitsWrong)

/- THE SECOND FORM. 'bulk': how many values and letters a reading holds, each counted each time it is reached (what is shared counts as often as it is met; a slice's spare places count too). A statement '..UptoSaid' is the law's where the arguments, and the package variables that the reading takes, are together of bulk at most 1048576: NARROWER than '..Said'. Prove '..Said' where nothing that the law and all that it calls make is longer than what came in: it says more and counts as full. Else prove '..UptoSaid'. A law counts once. -/
mutual
def uptoBulk {H : Type} : DataW H → Nat
  | .lit (.string bytes) => bytes.length + 1
  | .lit _ => 1
  | .nil => 1
  | .ptr d => uptoBulk d + 1
  | .slice elems spare => uptoBulkAll elems + uptoBulkAll spare + 1
  | .agg parts => uptoBulkAll parts + 1
  | .iface _ d => uptoBulk d + 1
  | .map entries => uptoBulkEntries entries + 1
  | .held _ => 1
def uptoBulkAll {H : Type} : List (DataW H) → Nat
  | [] => 0
  | d :: r => uptoBulk d + uptoBulkAll r
def uptoBulkEntries {H : Type} : List (Lit × DataW H) → Nat
  | [] => 0
  | x :: r => uptoBulkEntry x + uptoBulkEntries r
def uptoBulkEntry {H : Type} : Lit × DataW H → Nat
  | (.string bytes, d) => bytes.length + uptoBulk d + 1
  | (_, d) => uptoBulk d + 1
 end
def uptoSmall : (H : Type) → List (DataW H) → Bool := fun _ ds => decide (uptoBulkAll ds ≤ 1048576)
def OpenSpec.upto (s : _root_.Go.ChangeSpec) : _root_.Go.OpenSpec := { _root_.Go.OpenSpec.ofChange s with cond := some uptoSmall }

/-- 'bywaylaw07.RegexParses', WHERE WHAT IT READS IS OF BULK AT MOST 1048576: true; the input reads as it did. -/
def regexParsesUptoRow : OpenClaim := { program := "ytbpipnjdfmpbdaa", sum := "277ff9bfb1c7269ebf048532b0abc6311fbce2e1e1364d9845da67856cb357d3", func := "byway/bywaylaw07.RegexParses", spec := "regexParses", inPlace := ["internal/abi.NoEscape", "internal/bytealg.MakeNoZero"], unfollowed := true, recurses := true, apart := false, narrowed := true }
def RegexParsesUptoSaid : Prop := regexParsesUptoRow.holds Try.pinned (OpenSpec.upto regexParsesSpec)

/-- 'bywaylaw07.RegexReads', WHERE WHAT IT READS IS OF BULK AT MOST 1048576: true; the input reads as it did. -/
def regexReadsUptoRow : OpenClaim := { program := "ytbpipnjdfmpbdaa", sum := "277ff9bfb1c7269ebf048532b0abc6311fbce2e1e1364d9845da67856cb357d3", func := "byway/bywaylaw07.RegexReads", spec := "regexReads", inPlace := ["internal/abi.NoEscape", "internal/bytealg.MakeNoZero"], unfollowed := true, recurses := true, apart := false, narrowed := true }
def RegexReadsUptoSaid : Prop := regexReadsUptoRow.holds Try.pinned (OpenSpec.upto regexReadsSpec)

/-- 'bywaylaw07.RegexCuts', WHERE WHAT IT READS IS OF BULK AT MOST 1048576: true; the input reads as it did. -/
def regexCutsUptoRow : OpenClaim := { program := "ytbpipnjdfmpbdaa", sum := "277ff9bfb1c7269ebf048532b0abc6311fbce2e1e1364d9845da67856cb357d3", func := "byway/bywaylaw07.RegexCuts", spec := "regexCuts", inPlace := ["internal/abi.NoEscape", "internal/bytealg.MakeNoZero"], unfollowed := true, recurses := true, apart := false, narrowed := true }
def RegexCutsUptoSaid : Prop := regexCutsUptoRow.holds Try.pinned (OpenSpec.upto regexCutsSpec)

/-- 'bywaylaw07.RegexNames', WHERE WHAT IT READS IS OF BULK AT MOST 1048576: true; the input reads as it did. -/
def regexNamesUptoRow : OpenClaim := { program := "ytbpipnjdfmpbdaa", sum := "277ff9bfb1c7269ebf048532b0abc6311fbce2e1e1364d9845da67856cb357d3", func := "byway/bywaylaw07.RegexNames", spec := "regexNames", inPlace := ["internal/abi.NoEscape", "internal/bytealg.MakeNoZero"], unfollowed := true, recurses := true, apart := false, narrowed := true }
def RegexNamesUptoSaid : Prop := regexNamesUptoRow.holds Try.pinned (OpenSpec.upto regexNamesSpec)

/-- 'bywaylaw07.RegexPrints', WHERE WHAT IT READS IS OF BULK AT MOST 1048576: true; the input reads as it did. -/
def regexPrintsUptoRow : OpenClaim := { program := "ytbpipnjdfmpbdaa", sum := "277ff9bfb1c7269ebf048532b0abc6311fbce2e1e1364d9845da67856cb357d3", func := "byway/bywaylaw07.RegexPrints", spec := "regexPrints", inPlace := ["internal/abi.NoEscape", "internal/bytealg.MakeNoZero"], unfollowed := true, recurses := true, apart := false, narrowed := true }
def RegexPrintsUptoSaid : Prop := regexPrintsUptoRow.holds Try.pinned (OpenSpec.upto regexPrintsSpec)

/-- 'bywaylaw07.RegexRound', WHERE WHAT IT READS IS OF BULK AT MOST 1048576: true; the input reads as it did. -/
def regexRoundUptoRow : OpenClaim := { program := "ytbpipnjdfmpbdaa", sum := "277ff9bfb1c7269ebf048532b0abc6311fbce2e1e1364d9845da67856cb357d3", func := "byway/bywaylaw07.RegexRound", spec := "regexRound", inPlace := ["internal/abi.NoEscape", "internal/bytealg.MakeNoZero"], unfollowed := true, recurses := true, apart := false, narrowed := true }
def RegexRoundUptoSaid : Prop := regexRoundUptoRow.holds Try.pinned (OpenSpec.upto regexRoundSpec)

/-- 'bywaylaw07.RegexAgain', WHERE WHAT IT READS IS OF BULK AT MOST 1048576: true; the input reads as it did. -/
def regexAgainUptoRow : OpenClaim := { program := "ytbpipnjdfmpbdaa", sum := "277ff9bfb1c7269ebf048532b0abc6311fbce2e1e1364d9845da67856cb357d3", func := "byway/bywaylaw07.RegexAgain", spec := "regexAgain", inPlace := ["internal/abi.NoEscape", "internal/bytealg.MakeNoZero"], unfollowed := true, recurses := true, apart := false, narrowed := true }
def RegexAgainUptoSaid : Prop := regexAgainUptoRow.holds Try.pinned (OpenSpec.upto regexAgainSpec)

/-- 'bywaylaw07.RegexTurns', WHERE WHAT IT READS IS OF BULK AT MOST 1048576: true; the input reads as it did. -/
def regexTurnsUptoRow : OpenClaim := { program := "ytbpipnjdfmpbdaa", sum := "277ff9bfb1c7269ebf048532b0abc6311fbce2e1e1364d9845da67856cb357d3", func := "byway/bywaylaw07.RegexTurns", spec := "regexTurns", inPlace := ["internal/abi.NoEscape", "internal/bytealg.MakeNoZero"], unfollowed := true, recurses := true, apart := false, narrowed := true }
def RegexTurnsUptoSaid : Prop := regexTurnsUptoRow.holds Try.pinned (OpenSpec.upto regexTurnsSpec)

/-- 'bywaylaw07.RegexChecks', WHERE WHAT IT READS IS OF BULK AT MOST 1048576: true; the input reads as it did. -/
def regexChecksUptoRow : OpenClaim := { program := "ytbpipnjdfmpbdaa", sum := "277ff9bfb1c7269ebf048532b0abc6311fbce2e1e1364d9845da67856cb357d3", func := "byway/bywaylaw07.RegexChecks", spec := "regexChecks", inPlace := ["internal/abi.NoEscape", "internal/bytealg.MakeNoZero"], unfollowed := true, recurses := true, apart := false, narrowed := true }
def RegexChecksUptoSaid : Prop := regexChecksUptoRow.holds Try.pinned (OpenSpec.upto regexChecksSpec)

/-- 'bywaylaw07.RegexMatches', WHERE WHAT IT READS IS OF BULK AT MOST 1048576: true; the input reads as it did. -/
def regexMatchesUptoRow : OpenClaim := { program := "ytbpipnjdfmpbdaa", sum := "277ff9bfb1c7269ebf048532b0abc6311fbce2e1e1364d9845da67856cb357d3", func := "byway/bywaylaw07.RegexMatches", spec := "regexMatches", inPlace := ["internal/abi.NoEscape", "internal/bytealg.MakeNoZero"], unfollowed := true, recurses := true, apart := false, narrowed := true }
def RegexMatchesUptoSaid : Prop := regexMatchesUptoRow.holds Try.pinned (OpenSpec.upto regexMatchesSpec)

/-- 'bywaylaw07.RegexSplits', WHERE WHAT IT READS IS OF BULK AT MOST 1048576: true; the input reads as it did. -/
def regexSplitsUptoRow : OpenClaim := { program := "ytbpipnjdfmpbdaa", sum := "277ff9bfb1c7269ebf048532b0abc6311fbce2e1e1364d9845da67856cb357d3", func := "byway/bywaylaw07.RegexSplits", spec := "regexSplits", inPlace := ["internal/abi.NoEscape", "internal/bytealg.MakeNoZero"], unfollowed := true, recurses := true, apart := false, narrowed := true }
def RegexSplitsUptoSaid : Prop := regexSplitsUptoRow.holds Try.pinned (OpenSpec.upto regexSplitsSpec)

end Rows
end Go.Proofs.Ytbpipnjdfmpbdaa
