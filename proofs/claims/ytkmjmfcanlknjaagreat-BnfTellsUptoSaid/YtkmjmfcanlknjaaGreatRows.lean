/-
  No cell of these rows narrows 'for every input' (looked for: loops, veiled, ifaces, maps, wideKeys, modest, calm, conditions, laid).
  DERIVED. THE GIVEN ROWS OF THIS SEAT. 8 by the template 'for every input the law returns true; each argument reads behind the call as it read before'; 0 by the template 'total and deterministic' (their statements: YtkmjmfcanlknjaaGreatTotals.lean).
  GIVEN WITH THE SEED: the statements are not yours to turn. If you find one false, say at which input.
  Laid BY PROGRAM, IN A SANDBOX (cutbox-rows.mjs): the forced cells as the released guide's own fill.sh prints them over the translation f0336d1c8d9d99fe… (all of the seat's roots in one cut). By AI agents, Wed Nov 11 2026. No macro, syntax, notation, axiom, sorry.
-/
import Derived.Test.YtkmjmfcanlknjaaGreatChecked
import GoSem.Claim
import GoSem.ClaimJoined
import GoSem.ClaimMapViews
import Derived.JoinedTies
import Derived.KernelRfl
namespace Go.Proofs.YtkmjmfcanlknjaaGreat
/- THE CELL 'sum', in the pinned program and in every row, IS THE sha256 OF THE DUMP (.gsa) THAT YtkmjmfcanlknjaaGreatProg.lean LOADS. Nothing in Lean hashes anything: it is a label: what it is worth is what the hold of that sum in a sandbox is worth. -/
noncomputable def Tryz.pinned : Pinned := { name := "ytkmjmfcanlknjaagreat", sum := "f0336d1c8d9d99fe7a9f2cb81ff854f5ea71644d45f710d7a5066d83b0406b45", checked := Tryz.checked }
namespace Rows
def none {H : Type} : Left H := { results := [], args := [] }

/-- 'bywaylaw08.BnfChecks': WHATEVER THE INPUT: true; the input reads as it did. -/
def bnfChecksSpec : ChangeSpec := { name := "bnfChecks", fn := fun _ => fun
  | [d] => { results := [.lit (.bool true)], args := [d] }
  | _ => none }
def bnfChecksRow : OpenClaim := { program := "ytkmjmfcanlknjaagreat", sum := "f0336d1c8d9d99fe7a9f2cb81ff854f5ea71644d45f710d7a5066d83b0406b45", func := "byway/bywaylaw08.BnfChecks", spec := "bnfChecks", inPlace := ["internal/abi.NoEscape", "internal/bytealg.MakeNoZero"], unfollowed := true, recurses := true, apart := false }
def BnfChecksSaid : Prop := bnfChecksRow.holds Tryz.pinned (OpenSpec.ofChange bnfChecksSpec)

/-- ITS FALSE NEIGHBOUR: 'it returns false'. Refute it at one input. -/
def bnfChecksWrong : ChangeSpec := { name := "bnfChecks", fn := fun _ => fun
  | [d] => { results := [.lit (.bool false)], args := [d] }
  | _ => none }
def BnfChecksWrongFalsely : Prop := bnfChecksRow.holds Tryz.pinned (OpenSpec.ofChange bnfChecksWrong)

/-- 'bywaylaw08.BnfParses': WHATEVER THE INPUT: true; the input reads as it did. -/
def bnfParsesSpec : ChangeSpec := { name := "bnfParses", fn := fun _ => fun
  | [d] => { results := [.lit (.bool true)], args := [d] }
  | _ => none }
def bnfParsesRow : OpenClaim := { program := "ytkmjmfcanlknjaagreat", sum := "f0336d1c8d9d99fe7a9f2cb81ff854f5ea71644d45f710d7a5066d83b0406b45", func := "byway/bywaylaw08.BnfParses", spec := "bnfParses", inPlace := ["internal/abi.NoEscape", "internal/bytealg.MakeNoZero"], unfollowed := true, recurses := true, apart := false }
def BnfParsesSaid : Prop := bnfParsesRow.holds Tryz.pinned (OpenSpec.ofChange bnfParsesSpec)

/-- ITS FALSE NEIGHBOUR: 'it returns false'. Refute it at one input. -/
def bnfParsesWrong : ChangeSpec := { name := "bnfParses", fn := fun _ => fun
  | [d] => { results := [.lit (.bool false)], args := [d] }
  | _ => none }
def BnfParsesWrongFalsely : Prop := bnfParsesRow.holds Tryz.pinned (OpenSpec.ofChange bnfParsesWrong)

/-- 'bywaylaw08.BnfCuts': WHATEVER THE INPUT: true; the input reads as it did. -/
def bnfCutsSpec : ChangeSpec := { name := "bnfCuts", fn := fun _ => fun
  | [d1, d2] => { results := [.lit (.bool true)], args := [d1, d2] }
  | _ => none }
def bnfCutsRow : OpenClaim := { program := "ytkmjmfcanlknjaagreat", sum := "f0336d1c8d9d99fe7a9f2cb81ff854f5ea71644d45f710d7a5066d83b0406b45", func := "byway/bywaylaw08.BnfCuts", spec := "bnfCuts", inPlace := ["internal/abi.NoEscape", "internal/bytealg.MakeNoZero"], unfollowed := true, recurses := true, apart := false }
def BnfCutsSaid : Prop := bnfCutsRow.holds Tryz.pinned (OpenSpec.ofChange bnfCutsSpec)

/-- ITS FALSE NEIGHBOUR: 'it returns false'. Refute it at one input. -/
def bnfCutsWrong : ChangeSpec := { name := "bnfCuts", fn := fun _ => fun
  | [d1, d2] => { results := [.lit (.bool false)], args := [d1, d2] }
  | _ => none }
def BnfCutsWrongFalsely : Prop := bnfCutsRow.holds Tryz.pinned (OpenSpec.ofChange bnfCutsWrong)

/-- 'bywaylaw08.BnfRows': WHATEVER THE INPUT: true; the input reads as it did. -/
def bnfRowsSpec : ChangeSpec := { name := "bnfRows", fn := fun _ => fun
  | [d1, d2] => { results := [.lit (.bool true)], args := [d1, d2] }
  | _ => none }
def bnfRowsRow : OpenClaim := { program := "ytkmjmfcanlknjaagreat", sum := "f0336d1c8d9d99fe7a9f2cb81ff854f5ea71644d45f710d7a5066d83b0406b45", func := "byway/bywaylaw08.BnfRows", spec := "bnfRows", inPlace := ["internal/abi.NoEscape", "internal/bytealg.MakeNoZero"], unfollowed := true, recurses := true, apart := false }
def BnfRowsSaid : Prop := bnfRowsRow.holds Tryz.pinned (OpenSpec.ofChange bnfRowsSpec)

/-- ITS FALSE NEIGHBOUR: 'it returns false'. Refute it at one input. -/
def bnfRowsWrong : ChangeSpec := { name := "bnfRows", fn := fun _ => fun
  | [d1, d2] => { results := [.lit (.bool false)], args := [d1, d2] }
  | _ => none }
def BnfRowsWrongFalsely : Prop := bnfRowsRow.holds Tryz.pinned (OpenSpec.ofChange bnfRowsWrong)

/-- 'bywaylaw08.BnfPrints': WHATEVER THE INPUT: true; the input reads as it did. -/
def bnfPrintsSpec : ChangeSpec := { name := "bnfPrints", fn := fun _ => fun
  | [d] => { results := [.lit (.bool true)], args := [d] }
  | _ => none }
def bnfPrintsRow : OpenClaim := { program := "ytkmjmfcanlknjaagreat", sum := "f0336d1c8d9d99fe7a9f2cb81ff854f5ea71644d45f710d7a5066d83b0406b45", func := "byway/bywaylaw08.BnfPrints", spec := "bnfPrints", inPlace := ["internal/abi.NoEscape", "internal/bytealg.MakeNoZero"], unfollowed := true, recurses := true, apart := false }
def BnfPrintsSaid : Prop := bnfPrintsRow.holds Tryz.pinned (OpenSpec.ofChange bnfPrintsSpec)

/-- ITS FALSE NEIGHBOUR: 'it returns false'. Refute it at one input. -/
def bnfPrintsWrong : ChangeSpec := { name := "bnfPrints", fn := fun _ => fun
  | [d] => { results := [.lit (.bool false)], args := [d] }
  | _ => none }
def BnfPrintsWrongFalsely : Prop := bnfPrintsRow.holds Tryz.pinned (OpenSpec.ofChange bnfPrintsWrong)

/-- 'bywaylaw08.BnfRound': WHATEVER THE INPUT: true; the input reads as it did. -/
def bnfRoundSpec : ChangeSpec := { name := "bnfRound", fn := fun _ => fun
  | [d] => { results := [.lit (.bool true)], args := [d] }
  | _ => none }
def bnfRoundRow : OpenClaim := { program := "ytkmjmfcanlknjaagreat", sum := "f0336d1c8d9d99fe7a9f2cb81ff854f5ea71644d45f710d7a5066d83b0406b45", func := "byway/bywaylaw08.BnfRound", spec := "bnfRound", inPlace := ["internal/abi.NoEscape", "internal/bytealg.MakeNoZero"], unfollowed := true, recurses := true, apart := false }
def BnfRoundSaid : Prop := bnfRoundRow.holds Tryz.pinned (OpenSpec.ofChange bnfRoundSpec)

/-- ITS FALSE NEIGHBOUR: 'it returns false'. Refute it at one input. -/
def bnfRoundWrong : ChangeSpec := { name := "bnfRound", fn := fun _ => fun
  | [d] => { results := [.lit (.bool false)], args := [d] }
  | _ => none }
def BnfRoundWrongFalsely : Prop := bnfRoundRow.holds Tryz.pinned (OpenSpec.ofChange bnfRoundWrong)

/-- 'bywaylaw08.BnfAgain': WHATEVER THE INPUT: true; the input reads as it did. -/
def bnfAgainSpec : ChangeSpec := { name := "bnfAgain", fn := fun _ => fun
  | [d] => { results := [.lit (.bool true)], args := [d] }
  | _ => none }
def bnfAgainRow : OpenClaim := { program := "ytkmjmfcanlknjaagreat", sum := "f0336d1c8d9d99fe7a9f2cb81ff854f5ea71644d45f710d7a5066d83b0406b45", func := "byway/bywaylaw08.BnfAgain", spec := "bnfAgain", inPlace := ["internal/abi.NoEscape", "internal/bytealg.MakeNoZero"], unfollowed := true, recurses := true, apart := false }
def BnfAgainSaid : Prop := bnfAgainRow.holds Tryz.pinned (OpenSpec.ofChange bnfAgainSpec)

/-- ITS FALSE NEIGHBOUR: 'it returns false'. Refute it at one input. -/
def bnfAgainWrong : ChangeSpec := { name := "bnfAgain", fn := fun _ => fun
  | [d] => { results := [.lit (.bool false)], args := [d] }
  | _ => none }
def BnfAgainWrongFalsely : Prop := bnfAgainRow.holds Tryz.pinned (OpenSpec.ofChange bnfAgainWrong)

/-- 'bywaylaw08.BnfTells': WHATEVER THE INPUT: true; the input reads as it did. -/
def bnfTellsSpec : ChangeSpec := { name := "bnfTells", fn := fun _ => fun
  | [d1, d2, d3] => { results := [.lit (.bool true)], args := [d1, d2, d3] }
  | _ => none }
def bnfTellsRow : OpenClaim := { program := "ytkmjmfcanlknjaagreat", sum := "f0336d1c8d9d99fe7a9f2cb81ff854f5ea71644d45f710d7a5066d83b0406b45", func := "byway/bywaylaw08.BnfTells", spec := "bnfTells", inPlace := ["internal/abi.NoEscape", "internal/bytealg.MakeNoZero"], unfollowed := true, recurses := true, apart := false }
def BnfTellsSaid : Prop := bnfTellsRow.holds Tryz.pinned (OpenSpec.ofChange bnfTellsSpec)

/-- ITS FALSE NEIGHBOUR: 'it returns false'. Refute it at one input. -/
def bnfTellsWrong : ChangeSpec := { name := "bnfTells", fn := fun _ => fun
  | [d1, d2, d3] => { results := [.lit (.bool false)], args := [d1, d2, d3] }
  | _ => none }
def BnfTellsWrongFalsely : Prop := bnfTellsRow.holds Tryz.pinned (OpenSpec.ofChange bnfTellsWrong)

/- THE SECOND FORM. 'bulk': how many values and letters a reading holds, each counted each time it is reached (what is shared counts as often as it is met; a slice's spare places count too). A statement '..UptoSaid' is the law's where the arguments, and the package variables that the reading takes, are together of bulk at most 1048576: NARROWER than '..Said'. Prove '..Said' where nothing that the law and all that it calls make is longer than what came in: it says more and counts as full. Else prove '..UptoSaid'. A law counts once. -/
mutual
def uptoBulk {H : Type} : DataW H → Nat
  | .lit (.string bytes) => bytes.length + 1
  | .lit _ => 1
  | .nil => 1
  | .ptr d => uptoBulk d + 1
  | .slice elems spare => uptoBulkAll elems + uptoBulkAll spare + 1
  | .agg parts => uptoBulkAll parts + 1
  | .iface _ d => uptoBulk d + 1
  | .map entries => uptoBulkEntries entries + 1
  | .held _ => 1
def uptoBulkAll {H : Type} : List (DataW H) → Nat
  | [] => 0
  | d :: r => uptoBulk d + uptoBulkAll r
def uptoBulkEntries {H : Type} : List (Lit × DataW H) → Nat
  | [] => 0
  | x :: r => uptoBulkEntry x + uptoBulkEntries r
def uptoBulkEntry {H : Type} : Lit × DataW H → Nat
  | (.string bytes, d) => bytes.length + uptoBulk d + 1
  | (_, d) => uptoBulk d + 1
 end
def uptoSmall : (H : Type) → List (DataW H) → Bool := fun _ ds => decide (uptoBulkAll ds ≤ 1048576)
def OpenSpec.upto (s : _root_.Go.ChangeSpec) : _root_.Go.OpenSpec := { _root_.Go.OpenSpec.ofChange s with cond := some uptoSmall }

/-- 'bywaylaw08.BnfChecks', WHERE WHAT IT READS IS OF BULK AT MOST 1048576: true; the input reads as it did. -/
def bnfChecksUptoRow : OpenClaim := { program := "ytkmjmfcanlknjaagreat", sum := "f0336d1c8d9d99fe7a9f2cb81ff854f5ea71644d45f710d7a5066d83b0406b45", func := "byway/bywaylaw08.BnfChecks", spec := "bnfChecks", inPlace := ["internal/abi.NoEscape", "internal/bytealg.MakeNoZero"], unfollowed := true, recurses := true, apart := false, narrowed := true }
def BnfChecksUptoSaid : Prop := bnfChecksUptoRow.holds Tryz.pinned (OpenSpec.upto bnfChecksSpec)

/-- 'bywaylaw08.BnfParses', WHERE WHAT IT READS IS OF BULK AT MOST 1048576: true; the input reads as it did. -/
def bnfParsesUptoRow : OpenClaim := { program := "ytkmjmfcanlknjaagreat", sum := "f0336d1c8d9d99fe7a9f2cb81ff854f5ea71644d45f710d7a5066d83b0406b45", func := "byway/bywaylaw08.BnfParses", spec := "bnfParses", inPlace := ["internal/abi.NoEscape", "internal/bytealg.MakeNoZero"], unfollowed := true, recurses := true, apart := false, narrowed := true }
def BnfParsesUptoSaid : Prop := bnfParsesUptoRow.holds Tryz.pinned (OpenSpec.upto bnfParsesSpec)

/-- 'bywaylaw08.BnfCuts', WHERE WHAT IT READS IS OF BULK AT MOST 1048576: true; the input reads as it did. -/
def bnfCutsUptoRow : OpenClaim := { program := "ytkmjmfcanlknjaagreat", sum := "f0336d1c8d9d99fe7a9f2cb81ff854f5ea71644d45f710d7a5066d83b0406b45", func := "byway/bywaylaw08.BnfCuts", spec := "bnfCuts", inPlace := ["internal/abi.NoEscape", "internal/bytealg.MakeNoZero"], unfollowed := true, recurses := true, apart := false, narrowed := true }
def BnfCutsUptoSaid : Prop := bnfCutsUptoRow.holds Tryz.pinned (OpenSpec.upto bnfCutsSpec)

/-- 'bywaylaw08.BnfRows', WHERE WHAT IT READS IS OF BULK AT MOST 1048576: true; the input reads as it did. -/
def bnfRowsUptoRow : OpenClaim := { program := "ytkmjmfcanlknjaagreat", sum := "f0336d1c8d9d99fe7a9f2cb81ff854f5ea71644d45f710d7a5066d83b0406b45", func := "byway/bywaylaw08.BnfRows", spec := "bnfRows", inPlace := ["internal/abi.NoEscape", "internal/bytealg.MakeNoZero"], unfollowed := true, recurses := true, apart := false, narrowed := true }
def BnfRowsUptoSaid : Prop := bnfRowsUptoRow.holds Tryz.pinned (OpenSpec.upto bnfRowsSpec)

/-- 'bywaylaw08.BnfPrints', WHERE WHAT IT READS IS OF BULK AT MOST 1048576: true; the input reads as it did. -/
def bnfPrintsUptoRow : OpenClaim := { program := "ytkmjmfcanlknjaagreat", sum := "f0336d1c8d9d99fe7a9f2cb81ff854f5ea71644d45f710d7a5066d83b0406b45", func := "byway/bywaylaw08.BnfPrints", spec := "bnfPrints", inPlace := ["internal/abi.NoEscape", "internal/bytealg.MakeNoZero"], unfollowed := true, recurses := true, apart := false, narrowed := true }
def BnfPrintsUptoSaid : Prop := bnfPrintsUptoRow.holds Tryz.pinned (OpenSpec.upto bnfPrintsSpec)

/-- 'bywaylaw08.BnfRound', WHERE WHAT IT READS IS OF BULK AT MOST 1048576: true; the input reads as it did. -/
def bnfRoundUptoRow : OpenClaim := { program := "ytkmjmfcanlknjaagreat", sum := "f0336d1c8d9d99fe7a9f2cb81ff854f5ea71644d45f710d7a5066d83b0406b45", func := "byway/bywaylaw08.BnfRound", spec := "bnfRound", inPlace := ["internal/abi.NoEscape", "internal/bytealg.MakeNoZero"], unfollowed := true, recurses := true, apart := false, narrowed := true }
def BnfRoundUptoSaid : Prop := bnfRoundUptoRow.holds Tryz.pinned (OpenSpec.upto bnfRoundSpec)

/-- 'bywaylaw08.BnfAgain', WHERE WHAT IT READS IS OF BULK AT MOST 1048576: true; the input reads as it did. -/
def bnfAgainUptoRow : OpenClaim := { program := "ytkmjmfcanlknjaagreat", sum := "f0336d1c8d9d99fe7a9f2cb81ff854f5ea71644d45f710d7a5066d83b0406b45", func := "byway/bywaylaw08.BnfAgain", spec := "bnfAgain", inPlace := ["internal/abi.NoEscape", "internal/bytealg.MakeNoZero"], unfollowed := true, recurses := true, apart := false, narrowed := true }
def BnfAgainUptoSaid : Prop := bnfAgainUptoRow.holds Tryz.pinned (OpenSpec.upto bnfAgainSpec)

/-- 'bywaylaw08.BnfTells', WHERE WHAT IT READS IS OF BULK AT MOST 1048576: true; the input reads as it did. -/
def bnfTellsUptoRow : OpenClaim := { program := "ytkmjmfcanlknjaagreat", sum := "f0336d1c8d9d99fe7a9f2cb81ff854f5ea71644d45f710d7a5066d83b0406b45", func := "byway/bywaylaw08.BnfTells", spec := "bnfTells", inPlace := ["internal/abi.NoEscape", "internal/bytealg.MakeNoZero"], unfollowed := true, recurses := true, apart := false, narrowed := true }
def BnfTellsUptoSaid : Prop := bnfTellsUptoRow.holds Tryz.pinned (OpenSpec.upto bnfTellsSpec)

end Rows
end Go.Proofs.YtkmjmfcanlknjaaGreat
