/-
  No cell of these rows narrows 'for every input' (looked for: loops, veiled, ifaces, maps, wideKeys, modest, calm, conditions, laid).
  DERIVED. THE GIVEN ROWS OF THIS SEAT. 6 by the template 'for every input the law returns true; each argument reads behind the call as it read before'; 0 by the template 'total and deterministic' (their statements: YtfmcbpnhpckmjaaGreatTotals.lean).
  GIVEN WITH THE SEED: the statements are not yours to turn. If you find one false, say at which input.
  Laid BY PROGRAM, IN A SANDBOX (cutbox-rows.mjs): the forced cells as the released guide's own fill.sh prints them over the translation 98096ba39dbf56fc… (all of the seat's roots in one cut). By AI agents, Wed Nov 11 2026. No macro, syntax, notation, axiom, sorry.
-/
import Derived.Test.YtfmcbpnhpckmjaaGreatChecked
import GoSem.Claim
import GoSem.ClaimJoined
import GoSem.ClaimMapViews
import Derived.JoinedTies
import Derived.KernelRfl
namespace Go.Proofs.YtfmcbpnhpckmjaaGreat
/- THE CELL 'sum', in the pinned program and in every row, IS THE sha256 OF THE DUMP (.gsa) THAT YtfmcbpnhpckmjaaGreatProg.lean LOADS. Nothing in Lean hashes anything: it is a label: what it is worth is what the hold of that sum in a sandbox is worth. -/
noncomputable def Tryz.pinned : Pinned := { name := "ytfmcbpnhpckmjaagreat", sum := "98096ba39dbf56fcd8950c3ae0b95d8c86480775426e3f792edf2690e1fb6486", checked := Tryz.checked }
namespace Rows
def none {H : Type} : Left H := { results := [], args := [] }

/-- 'bywaylaw09.SymbolsOf': WHATEVER THE INPUT: true; the input reads as it did. -/
def symbolsOfSpec : ChangeSpec := { name := "symbolsOf", fn := fun _ => fun
  | [d] => { results := [.lit (.bool true)], args := [d] }
  | _ => none }
def symbolsOfRow : OpenClaim := { program := "ytfmcbpnhpckmjaagreat", sum := "98096ba39dbf56fcd8950c3ae0b95d8c86480775426e3f792edf2690e1fb6486", func := "byway/bywaylaw09.SymbolsOf", spec := "symbolsOf", inPlace := ["internal/abi.NoEscape", "internal/bytealg.MakeNoZero"], unfollowed := true, recurses := true, plainKeys := false, apart := false }
def SymbolsOfSaid : Prop := symbolsOfRow.holds Tryz.pinned (OpenSpec.ofChange symbolsOfSpec)

/-- ITS FALSE NEIGHBOUR: 'it returns false'. Refute it at one input. -/
def symbolsOfWrong : ChangeSpec := { name := "symbolsOf", fn := fun _ => fun
  | [d] => { results := [.lit (.bool false)], args := [d] }
  | _ => none }
def SymbolsOfWrongFalsely : Prop := symbolsOfRow.holds Tryz.pinned (OpenSpec.ofChange symbolsOfWrong)

/-- 'bywaylaw09.SymbolsApart': WHATEVER THE INPUT: true; the input reads as it did. -/
def symbolsApartSpec : ChangeSpec := { name := "symbolsApart", fn := fun _ => fun
  | [d] => { results := [.lit (.bool true)], args := [d] }
  | _ => none }
def symbolsApartRow : OpenClaim := { program := "ytfmcbpnhpckmjaagreat", sum := "98096ba39dbf56fcd8950c3ae0b95d8c86480775426e3f792edf2690e1fb6486", func := "byway/bywaylaw09.SymbolsApart", spec := "symbolsApart", inPlace := ["internal/abi.NoEscape", "internal/bytealg.MakeNoZero"], unfollowed := true, recurses := true, plainKeys := false, apart := false }
def SymbolsApartSaid : Prop := symbolsApartRow.holds Tryz.pinned (OpenSpec.ofChange symbolsApartSpec)

/-- ITS FALSE NEIGHBOUR: 'it returns false'. Refute it at one input. -/
def symbolsApartWrong : ChangeSpec := { name := "symbolsApart", fn := fun _ => fun
  | [d] => { results := [.lit (.bool false)], args := [d] }
  | _ => none }
def SymbolsApartWrongFalsely : Prop := symbolsApartRow.holds Tryz.pinned (OpenSpec.ofChange symbolsApartWrong)

/-- 'bywaylaw09.SymbolsAll': WHATEVER THE INPUT: true; the input reads as it did. -/
def symbolsAllSpec : ChangeSpec := { name := "symbolsAll", fn := fun _ => fun
  | [d1, d2] => { results := [.lit (.bool true)], args := [d1, d2] }
  | _ => none }
def symbolsAllRow : OpenClaim := { program := "ytfmcbpnhpckmjaagreat", sum := "98096ba39dbf56fcd8950c3ae0b95d8c86480775426e3f792edf2690e1fb6486", func := "byway/bywaylaw09.SymbolsAll", spec := "symbolsAll", inPlace := ["internal/abi.NoEscape", "internal/bytealg.MakeNoZero"], unfollowed := true, recurses := true, plainKeys := false, apart := false }
def SymbolsAllSaid : Prop := symbolsAllRow.holds Tryz.pinned (OpenSpec.ofChange symbolsAllSpec)

/-- ITS FALSE NEIGHBOUR: 'it returns false'. Refute it at one input. -/
def symbolsAllWrong : ChangeSpec := { name := "symbolsAll", fn := fun _ => fun
  | [d1, d2] => { results := [.lit (.bool false)], args := [d1, d2] }
  | _ => none }
def SymbolsAllWrongFalsely : Prop := symbolsAllRow.holds Tryz.pinned (OpenSpec.ofChange symbolsAllWrong)

/-- 'bywaylaw09.SymbolsAnswers': WHATEVER THE INPUT: true; the input reads as it did. -/
def symbolsAnswersSpec : ChangeSpec := { name := "symbolsAnswers", fn := fun _ => fun
  | [d1, d2, d3, d4] => { results := [.lit (.bool true)], args := [d1, d2, d3, d4] }
  | _ => none }
def symbolsAnswersRow : OpenClaim := { program := "ytfmcbpnhpckmjaagreat", sum := "98096ba39dbf56fcd8950c3ae0b95d8c86480775426e3f792edf2690e1fb6486", func := "byway/bywaylaw09.SymbolsAnswers", spec := "symbolsAnswers", inPlace := ["internal/abi.NoEscape", "internal/bytealg.MakeNoZero"], unfollowed := true, recurses := true, plainKeys := false, apart := false }
def SymbolsAnswersSaid : Prop := symbolsAnswersRow.holds Tryz.pinned (OpenSpec.ofChange symbolsAnswersSpec)

/-- ITS FALSE NEIGHBOUR: 'it returns false'. Refute it at one input. -/
def symbolsAnswersWrong : ChangeSpec := { name := "symbolsAnswers", fn := fun _ => fun
  | [d1, d2, d3, d4] => { results := [.lit (.bool false)], args := [d1, d2, d3, d4] }
  | _ => none }
def SymbolsAnswersWrongFalsely : Prop := symbolsAnswersRow.holds Tryz.pinned (OpenSpec.ofChange symbolsAnswersWrong)

/-- 'bywaylaw09.SymbolsWords': WHATEVER THE INPUT: true; the input reads as it did. -/
def symbolsWordsSpec : ChangeSpec := { name := "symbolsWords", fn := fun _ => fun
  | [d1, d2, d3] => { results := [.lit (.bool true)], args := [d1, d2, d3] }
  | _ => none }
def symbolsWordsRow : OpenClaim := { program := "ytfmcbpnhpckmjaagreat", sum := "98096ba39dbf56fcd8950c3ae0b95d8c86480775426e3f792edf2690e1fb6486", func := "byway/bywaylaw09.SymbolsWords", spec := "symbolsWords", inPlace := ["internal/abi.NoEscape", "internal/bytealg.MakeNoZero"], unfollowed := true, recurses := true, plainKeys := false, apart := false }
def SymbolsWordsSaid : Prop := symbolsWordsRow.holds Tryz.pinned (OpenSpec.ofChange symbolsWordsSpec)

/-- ITS FALSE NEIGHBOUR: 'it returns false'. Refute it at one input. -/
def symbolsWordsWrong : ChangeSpec := { name := "symbolsWords", fn := fun _ => fun
  | [d1, d2, d3] => { results := [.lit (.bool false)], args := [d1, d2, d3] }
  | _ => none }
def SymbolsWordsWrongFalsely : Prop := symbolsWordsRow.holds Tryz.pinned (OpenSpec.ofChange symbolsWordsWrong)

/-- 'bywaylaw09.SymbolsLead': WHATEVER THE INPUT: true; the input reads as it did. -/
def symbolsLeadSpec : ChangeSpec := { name := "symbolsLead", fn := fun _ => fun
  | [d] => { results := [.lit (.bool true)], args := [d] }
  | _ => none }
def symbolsLeadRow : OpenClaim := { program := "ytfmcbpnhpckmjaagreat", sum := "98096ba39dbf56fcd8950c3ae0b95d8c86480775426e3f792edf2690e1fb6486", func := "byway/bywaylaw09.SymbolsLead", spec := "symbolsLead", inPlace := ["internal/abi.NoEscape", "internal/bytealg.MakeNoZero"], unfollowed := true, recurses := true, plainKeys := false, apart := false }
def SymbolsLeadSaid : Prop := symbolsLeadRow.holds Tryz.pinned (OpenSpec.ofChange symbolsLeadSpec)

/-- ITS FALSE NEIGHBOUR: 'it returns false'. Refute it at one input. -/
def symbolsLeadWrong : ChangeSpec := { name := "symbolsLead", fn := fun _ => fun
  | [d] => { results := [.lit (.bool false)], args := [d] }
  | _ => none }
def SymbolsLeadWrongFalsely : Prop := symbolsLeadRow.holds Tryz.pinned (OpenSpec.ofChange symbolsLeadWrong)

/- THE SECOND FORM. 'bulk': how many values and letters a reading holds, each counted each time it is reached (what is shared counts as often as it is met; a slice's spare places count too). A statement '..UptoSaid' is the law's where the arguments, and the package variables that the reading takes, are together of bulk at most 1048576: NARROWER than '..Said'. Prove '..Said' where nothing that the law and all that it calls make is longer than what came in: it says more and counts as full. Else prove '..UptoSaid'. A law counts once. -/
mutual
def uptoBulk {H : Type} : DataW H → Nat
  | .lit (.string bytes) => bytes.length + 1
  | .lit _ => 1
  | .nil => 1
  | .ptr d => uptoBulk d + 1
  | .slice elems spare => uptoBulkAll elems + uptoBulkAll spare + 1
  | .agg parts => uptoBulkAll parts + 1
  | .iface _ d => uptoBulk d + 1
  | .map entries => uptoBulkEntries entries + 1
  | .held _ => 1
def uptoBulkAll {H : Type} : List (DataW H) → Nat
  | [] => 0
  | d :: r => uptoBulk d + uptoBulkAll r
def uptoBulkEntries {H : Type} : List (Lit × DataW H) → Nat
  | [] => 0
  | x :: r => uptoBulkEntry x + uptoBulkEntries r
def uptoBulkEntry {H : Type} : Lit × DataW H → Nat
  | (.string bytes, d) => bytes.length + uptoBulk d + 1
  | (_, d) => uptoBulk d + 1
 end
def uptoSmall : (H : Type) → List (DataW H) → Bool := fun _ ds => decide (uptoBulkAll ds ≤ 1048576)
def OpenSpec.upto (s : _root_.Go.ChangeSpec) : _root_.Go.OpenSpec := { _root_.Go.OpenSpec.ofChange s with cond := some uptoSmall }

/-- 'bywaylaw09.SymbolsOf', WHERE WHAT IT READS IS OF BULK AT MOST 1048576: true; the input reads as it did. -/
def symbolsOfUptoRow : OpenClaim := { program := "ytfmcbpnhpckmjaagreat", sum := "98096ba39dbf56fcd8950c3ae0b95d8c86480775426e3f792edf2690e1fb6486", func := "byway/bywaylaw09.SymbolsOf", spec := "symbolsOf", inPlace := ["internal/abi.NoEscape", "internal/bytealg.MakeNoZero"], unfollowed := true, recurses := true, plainKeys := false, apart := false, narrowed := true }
def SymbolsOfUptoSaid : Prop := symbolsOfUptoRow.holds Tryz.pinned (OpenSpec.upto symbolsOfSpec)

/-- 'bywaylaw09.SymbolsApart', WHERE WHAT IT READS IS OF BULK AT MOST 1048576: true; the input reads as it did. -/
def symbolsApartUptoRow : OpenClaim := { program := "ytfmcbpnhpckmjaagreat", sum := "98096ba39dbf56fcd8950c3ae0b95d8c86480775426e3f792edf2690e1fb6486", func := "byway/bywaylaw09.SymbolsApart", spec := "symbolsApart", inPlace := ["internal/abi.NoEscape", "internal/bytealg.MakeNoZero"], unfollowed := true, recurses := true, plainKeys := false, apart := false, narrowed := true }
def SymbolsApartUptoSaid : Prop := symbolsApartUptoRow.holds Tryz.pinned (OpenSpec.upto symbolsApartSpec)

/-- 'bywaylaw09.SymbolsAll', WHERE WHAT IT READS IS OF BULK AT MOST 1048576: true; the input reads as it did. -/
def symbolsAllUptoRow : OpenClaim := { program := "ytfmcbpnhpckmjaagreat", sum := "98096ba39dbf56fcd8950c3ae0b95d8c86480775426e3f792edf2690e1fb6486", func := "byway/bywaylaw09.SymbolsAll", spec := "symbolsAll", inPlace := ["internal/abi.NoEscape", "internal/bytealg.MakeNoZero"], unfollowed := true, recurses := true, plainKeys := false, apart := false, narrowed := true }
def SymbolsAllUptoSaid : Prop := symbolsAllUptoRow.holds Tryz.pinned (OpenSpec.upto symbolsAllSpec)

/-- 'bywaylaw09.SymbolsAnswers', WHERE WHAT IT READS IS OF BULK AT MOST 1048576: true; the input reads as it did. -/
def symbolsAnswersUptoRow : OpenClaim := { program := "ytfmcbpnhpckmjaagreat", sum := "98096ba39dbf56fcd8950c3ae0b95d8c86480775426e3f792edf2690e1fb6486", func := "byway/bywaylaw09.SymbolsAnswers", spec := "symbolsAnswers", inPlace := ["internal/abi.NoEscape", "internal/bytealg.MakeNoZero"], unfollowed := true, recurses := true, plainKeys := false, apart := false, narrowed := true }
def SymbolsAnswersUptoSaid : Prop := symbolsAnswersUptoRow.holds Tryz.pinned (OpenSpec.upto symbolsAnswersSpec)

/-- 'bywaylaw09.SymbolsWords', WHERE WHAT IT READS IS OF BULK AT MOST 1048576: true; the input reads as it did. -/
def symbolsWordsUptoRow : OpenClaim := { program := "ytfmcbpnhpckmjaagreat", sum := "98096ba39dbf56fcd8950c3ae0b95d8c86480775426e3f792edf2690e1fb6486", func := "byway/bywaylaw09.SymbolsWords", spec := "symbolsWords", inPlace := ["internal/abi.NoEscape", "internal/bytealg.MakeNoZero"], unfollowed := true, recurses := true, plainKeys := false, apart := false, narrowed := true }
def SymbolsWordsUptoSaid : Prop := symbolsWordsUptoRow.holds Tryz.pinned (OpenSpec.upto symbolsWordsSpec)

/-- 'bywaylaw09.SymbolsLead', WHERE WHAT IT READS IS OF BULK AT MOST 1048576: true; the input reads as it did. -/
def symbolsLeadUptoRow : OpenClaim := { program := "ytfmcbpnhpckmjaagreat", sum := "98096ba39dbf56fcd8950c3ae0b95d8c86480775426e3f792edf2690e1fb6486", func := "byway/bywaylaw09.SymbolsLead", spec := "symbolsLead", inPlace := ["internal/abi.NoEscape", "internal/bytealg.MakeNoZero"], unfollowed := true, recurses := true, plainKeys := false, apart := false, narrowed := true }
def SymbolsLeadUptoSaid : Prop := symbolsLeadUptoRow.holds Tryz.pinned (OpenSpec.upto symbolsLeadSpec)

end Rows
end Go.Proofs.YtfmcbpnhpckmjaaGreat
