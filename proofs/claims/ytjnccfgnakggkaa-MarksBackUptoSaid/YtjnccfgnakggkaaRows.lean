/-
  No cell of these rows narrows 'for every input' (looked for: loops, veiled, ifaces, maps, wideKeys, modest, calm, conditions, laid).
  DERIVED. THE GIVEN ROWS OF THIS SEAT. 6 by the template 'for every input the law returns true; each argument reads behind the call as it read before'; 0 by the template 'total and deterministic' (their statements: YtjnccfgnakggkaaTotals.lean).
  GIVEN WITH THE SEED: the statements are not yours to turn. If you find one false, say at which input.
  Laid BY PROGRAM, IN A SANDBOX (cutbox-rows.mjs): the forced cells as the released guide's own fill.sh prints them over the translation 7194bd09507c6c02… (all of the seat's roots in one cut). By AI agents, Wed Nov 11 2026. No macro, syntax, notation, axiom, sorry.
-/
import Derived.Test.YtjnccfgnakggkaaChecked
import GoSem.Claim
import GoSem.ClaimJoined
import GoSem.ClaimMapViews
import Derived.JoinedTies
import Derived.KernelRfl
namespace Go.Proofs.Ytjnccfgnakggkaa
/- THE CELL 'sum', in the pinned program and in every row, IS THE sha256 OF THE DUMP (.gsa) THAT YtjnccfgnakggkaaProg.lean LOADS. Nothing in Lean hashes anything: it is a label: what it is worth is what the hold of that sum in a sandbox is worth. -/
noncomputable def Try.pinned : Pinned := { name := "ytjnccfgnakggkaa", sum := "7194bd09507c6c026760dc01c8bbd7c9b6f57bd371d78784bd7819cc2f598921", checked := Try.checked }
namespace Rows
def none {H : Type} : Left H := { results := [], args := [] }

/-- 'bywaylaw06.MarksScan': WHATEVER THE INPUT: true; the input reads as it did. -/
def marksScanSpec : ChangeSpec := { name := "marksScan", fn := fun _ => fun
  | [d1, d2] => { results := [.lit (.bool true)], args := [d1, d2] }
  | _ => none }
def marksScanRow : OpenClaim := { program := "ytjnccfgnakggkaa", sum := "7194bd09507c6c026760dc01c8bbd7c9b6f57bd371d78784bd7819cc2f598921", func := "byway/bywaylaw06.MarksScan", spec := "marksScan", unfollowed := true, recurses := true, apart := false }
def MarksScanSaid : Prop := marksScanRow.holds Try.pinned (OpenSpec.ofChange marksScanSpec)

/-- ITS FALSE NEIGHBOUR: 'it returns false'. Refute it at one input. -/
def marksScanWrong : ChangeSpec := { name := "marksScan", fn := fun _ => fun
  | [d1, d2] => { results := [.lit (.bool false)], args := [d1, d2] }
  | _ => none }
def MarksScanWrongFalsely : Prop := marksScanRow.holds Try.pinned (OpenSpec.ofChange marksScanWrong)

/-- 'bywaylaw06.MarksPieces': WHATEVER THE INPUT: true; the input reads as it did. -/
def marksPiecesSpec : ChangeSpec := { name := "marksPieces", fn := fun _ => fun
  | [d] => { results := [.lit (.bool true)], args := [d] }
  | _ => none }
def marksPiecesRow : OpenClaim := { program := "ytjnccfgnakggkaa", sum := "7194bd09507c6c026760dc01c8bbd7c9b6f57bd371d78784bd7819cc2f598921", func := "byway/bywaylaw06.MarksPieces", spec := "marksPieces", unfollowed := true, recurses := true, apart := false }
def MarksPiecesSaid : Prop := marksPiecesRow.holds Try.pinned (OpenSpec.ofChange marksPiecesSpec)

/-- ITS FALSE NEIGHBOUR: 'it returns false'. Refute it at one input. -/
def marksPiecesWrong : ChangeSpec := { name := "marksPieces", fn := fun _ => fun
  | [d] => { results := [.lit (.bool false)], args := [d] }
  | _ => none }
def MarksPiecesWrongFalsely : Prop := marksPiecesRow.holds Try.pinned (OpenSpec.ofChange marksPiecesWrong)

/-- 'bywaylaw06.MarksText': WHATEVER THE INPUT: true; the input reads as it did. -/
def marksTextSpec : ChangeSpec := { name := "marksText", fn := fun _ => fun
  | [d] => { results := [.lit (.bool true)], args := [d] }
  | _ => none }
def marksTextRow : OpenClaim := { program := "ytjnccfgnakggkaa", sum := "7194bd09507c6c026760dc01c8bbd7c9b6f57bd371d78784bd7819cc2f598921", func := "byway/bywaylaw06.MarksText", spec := "marksText", inPlace := ["internal/abi.NoEscape", "internal/bytealg.MakeNoZero"], unfollowed := true, recurses := true, apart := false }
def MarksTextSaid : Prop := marksTextRow.holds Try.pinned (OpenSpec.ofChange marksTextSpec)

/-- ITS FALSE NEIGHBOUR: 'it returns false'. Refute it at one input. -/
def marksTextWrong : ChangeSpec := { name := "marksText", fn := fun _ => fun
  | [d] => { results := [.lit (.bool false)], args := [d] }
  | _ => none }
def MarksTextWrongFalsely : Prop := marksTextRow.holds Try.pinned (OpenSpec.ofChange marksTextWrong)

/-- 'bywaylaw06.MarksBack': WHATEVER THE INPUT: true; the input reads as it did. -/
def marksBackSpec : ChangeSpec := { name := "marksBack", fn := fun _ => fun
  | [d1, d2] => { results := [.lit (.bool true)], args := [d1, d2] }
  | _ => none }
def marksBackRow : OpenClaim := { program := "ytjnccfgnakggkaa", sum := "7194bd09507c6c026760dc01c8bbd7c9b6f57bd371d78784bd7819cc2f598921", func := "byway/bywaylaw06.MarksBack", spec := "marksBack", inPlace := ["internal/abi.NoEscape", "internal/bytealg.MakeNoZero"], unfollowed := true, recurses := true, apart := false }
def MarksBackSaid : Prop := marksBackRow.holds Try.pinned (OpenSpec.ofChange marksBackSpec)

/-- ITS FALSE NEIGHBOUR: 'it returns false'. Refute it at one input. -/
def marksBackWrong : ChangeSpec := { name := "marksBack", fn := fun _ => fun
  | [d1, d2] => { results := [.lit (.bool false)], args := [d1, d2] }
  | _ => none }
def MarksBackWrongFalsely : Prop := marksBackRow.holds Try.pinned (OpenSpec.ofChange marksBackWrong)

/-- 'bywaylaw06.MarksPlace': WHATEVER THE INPUT: true; the input reads as it did. -/
def marksPlaceSpec : ChangeSpec := { name := "marksPlace", fn := fun _ => fun
  | [d1, d2] => { results := [.lit (.bool true)], args := [d1, d2] }
  | _ => none }
def marksPlaceRow : OpenClaim := { program := "ytjnccfgnakggkaa", sum := "7194bd09507c6c026760dc01c8bbd7c9b6f57bd371d78784bd7819cc2f598921", func := "byway/bywaylaw06.MarksPlace", spec := "marksPlace", inPlace := ["internal/bytealg.CountString", "internal/bytealg.IndexByteString", "internal/bytealg.IndexString"], unfollowed := true, recurses := true, named := ["internal/bytealg.MaxLen"], apart := false }
def MarksPlaceSaid : Prop := marksPlaceRow.holds Try.pinned (OpenSpec.ofChange marksPlaceSpec)

/-- ITS FALSE NEIGHBOUR: 'it returns false'. Refute it at one input. -/
def marksPlaceWrong : ChangeSpec := { name := "marksPlace", fn := fun _ => fun
  | [d1, d2] => { results := [.lit (.bool false)], args := [d1, d2] }
  | _ => none }
def MarksPlaceWrongFalsely : Prop := marksPlaceRow.holds Try.pinned (OpenSpec.ofChange marksPlaceWrong)

/-- 'bywaylaw06.MarksLines': WHATEVER THE INPUT: true; the input reads as it did. -/
def marksLinesSpec : ChangeSpec := { name := "marksLines", fn := fun _ => fun
  | [d] => { results := [.lit (.bool true)], args := [d] }
  | _ => none }
def marksLinesRow : OpenClaim := { program := "ytjnccfgnakggkaa", sum := "7194bd09507c6c026760dc01c8bbd7c9b6f57bd371d78784bd7819cc2f598921", func := "byway/bywaylaw06.MarksLines", spec := "marksLines", inPlace := ["internal/bytealg.CountString", "internal/bytealg.IndexByteString", "internal/bytealg.IndexString"], unfollowed := true, recurses := true, named := ["internal/bytealg.MaxLen"], apart := false }
def MarksLinesSaid : Prop := marksLinesRow.holds Try.pinned (OpenSpec.ofChange marksLinesSpec)

/-- ITS FALSE NEIGHBOUR: 'it returns false'. Refute it at one input. -/
def marksLinesWrong : ChangeSpec := { name := "marksLines", fn := fun _ => fun
  | [d] => { results := [.lit (.bool false)], args := [d] }
  | _ => none }
def MarksLinesWrongFalsely : Prop := marksLinesRow.holds Try.pinned (OpenSpec.ofChange marksLinesWrong)

/- THE SECOND FORM. 'bulk': how many values and letters a reading holds, each counted each time it is reached (what is shared counts as often as it is met; a slice's spare places count too). A statement '..UptoSaid' is the law's where the arguments, and the package variables that the reading takes, are together of bulk at most 1048576: NARROWER than '..Said'. Prove '..Said' where nothing that the law and all that it calls make is longer than what came in: it says more and counts as full. Else prove '..UptoSaid'. A law counts once. -/
mutual
def uptoBulk {H : Type} : DataW H → Nat
  | .lit (.string bytes) => bytes.length + 1
  | .lit _ => 1
  | .nil => 1
  | .ptr d => uptoBulk d + 1
  | .slice elems spare => uptoBulkAll elems + uptoBulkAll spare + 1
  | .agg parts => uptoBulkAll parts + 1
  | .iface _ d => uptoBulk d + 1
  | .map entries => uptoBulkEntries entries + 1
  | .held _ => 1
def uptoBulkAll {H : Type} : List (DataW H) → Nat
  | [] => 0
  | d :: r => uptoBulk d + uptoBulkAll r
def uptoBulkEntries {H : Type} : List (Lit × DataW H) → Nat
  | [] => 0
  | x :: r => uptoBulkEntry x + uptoBulkEntries r
def uptoBulkEntry {H : Type} : Lit × DataW H → Nat
  | (.string bytes, d) => bytes.length + uptoBulk d + 1
  | (_, d) => uptoBulk d + 1
 end
def uptoSmall : (H : Type) → List (DataW H) → Bool := fun _ ds => decide (uptoBulkAll ds ≤ 1048576)
def OpenSpec.upto (s : _root_.Go.ChangeSpec) : _root_.Go.OpenSpec := { _root_.Go.OpenSpec.ofChange s with cond := some uptoSmall }

/-- 'bywaylaw06.MarksScan', WHERE WHAT IT READS IS OF BULK AT MOST 1048576: true; the input reads as it did. -/
def marksScanUptoRow : OpenClaim := { program := "ytjnccfgnakggkaa", sum := "7194bd09507c6c026760dc01c8bbd7c9b6f57bd371d78784bd7819cc2f598921", func := "byway/bywaylaw06.MarksScan", spec := "marksScan", unfollowed := true, recurses := true, apart := false, narrowed := true }
def MarksScanUptoSaid : Prop := marksScanUptoRow.holds Try.pinned (OpenSpec.upto marksScanSpec)

/-- 'bywaylaw06.MarksPieces', WHERE WHAT IT READS IS OF BULK AT MOST 1048576: true; the input reads as it did. -/
def marksPiecesUptoRow : OpenClaim := { program := "ytjnccfgnakggkaa", sum := "7194bd09507c6c026760dc01c8bbd7c9b6f57bd371d78784bd7819cc2f598921", func := "byway/bywaylaw06.MarksPieces", spec := "marksPieces", unfollowed := true, recurses := true, apart := false, narrowed := true }
def MarksPiecesUptoSaid : Prop := marksPiecesUptoRow.holds Try.pinned (OpenSpec.upto marksPiecesSpec)

/-- 'bywaylaw06.MarksText', WHERE WHAT IT READS IS OF BULK AT MOST 1048576: true; the input reads as it did. -/
def marksTextUptoRow : OpenClaim := { program := "ytjnccfgnakggkaa", sum := "7194bd09507c6c026760dc01c8bbd7c9b6f57bd371d78784bd7819cc2f598921", func := "byway/bywaylaw06.MarksText", spec := "marksText", inPlace := ["internal/abi.NoEscape", "internal/bytealg.MakeNoZero"], unfollowed := true, recurses := true, apart := false, narrowed := true }
def MarksTextUptoSaid : Prop := marksTextUptoRow.holds Try.pinned (OpenSpec.upto marksTextSpec)

/-- 'bywaylaw06.MarksBack', WHERE WHAT IT READS IS OF BULK AT MOST 1048576: true; the input reads as it did. -/
def marksBackUptoRow : OpenClaim := { program := "ytjnccfgnakggkaa", sum := "7194bd09507c6c026760dc01c8bbd7c9b6f57bd371d78784bd7819cc2f598921", func := "byway/bywaylaw06.MarksBack", spec := "marksBack", inPlace := ["internal/abi.NoEscape", "internal/bytealg.MakeNoZero"], unfollowed := true, recurses := true, apart := false, narrowed := true }
def MarksBackUptoSaid : Prop := marksBackUptoRow.holds Try.pinned (OpenSpec.upto marksBackSpec)

/-- 'bywaylaw06.MarksPlace', WHERE WHAT IT READS IS OF BULK AT MOST 1048576: true; the input reads as it did. -/
def marksPlaceUptoRow : OpenClaim := { program := "ytjnccfgnakggkaa", sum := "7194bd09507c6c026760dc01c8bbd7c9b6f57bd371d78784bd7819cc2f598921", func := "byway/bywaylaw06.MarksPlace", spec := "marksPlace", inPlace := ["internal/bytealg.CountString", "internal/bytealg.IndexByteString", "internal/bytealg.IndexString"], unfollowed := true, recurses := true, named := ["internal/bytealg.MaxLen"], apart := false, narrowed := true }
def MarksPlaceUptoSaid : Prop := marksPlaceUptoRow.holds Try.pinned (OpenSpec.upto marksPlaceSpec)

/-- 'bywaylaw06.MarksLines', WHERE WHAT IT READS IS OF BULK AT MOST 1048576: true; the input reads as it did. -/
def marksLinesUptoRow : OpenClaim := { program := "ytjnccfgnakggkaa", sum := "7194bd09507c6c026760dc01c8bbd7c9b6f57bd371d78784bd7819cc2f598921", func := "byway/bywaylaw06.MarksLines", spec := "marksLines", inPlace := ["internal/bytealg.CountString", "internal/bytealg.IndexByteString", "internal/bytealg.IndexString"], unfollowed := true, recurses := true, named := ["internal/bytealg.MaxLen"], apart := false, narrowed := true }
def MarksLinesUptoSaid : Prop := marksLinesUptoRow.holds Try.pinned (OpenSpec.upto marksLinesSpec)

end Rows
end Go.Proofs.Ytjnccfgnakggkaa
