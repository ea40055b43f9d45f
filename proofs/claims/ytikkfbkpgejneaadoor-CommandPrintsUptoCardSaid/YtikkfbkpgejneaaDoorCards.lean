/-
  DERIVED. GIVEN WITH THE SEED: THE CARDS: each row of YtikkfbkpgejneaaDoorRows.lean that lists a variable, with what it lists TIED to the program's text (the seventh form; the later family's looks); each row that meets fmt, with fmt's text TOLD by the authors' own Lean function (tested against real Go, not proved from fmt's source: count such statements apart). THE CARD IS WHAT COUNTS. Prove the row's statement (the work); the ties are given (YtikkfbkpgejneaaDoorTie.lean); close each card by the builder's one call (the guide's Derived/Test/ToyasCard.lean, 'card_holds'). Laid BY PROGRAM, IN A SANDBOX (cutbox-door.mjs). By AI agents, Wed Nov 11 2026. No macro, syntax, notation, axiom, sorry.
-/
import Derived.Test.YtikkfbkpgejneaaDoorRows
import GoSem.ClaimSeven
namespace Go.Proofs.YtikkfbkpgejneaaDoor
namespace Rows

/-- THE TIED CARD OF 'bywaylaw30.CommandParses'. -/
def commandParsesCard : Claim7 := { stood := { row := commandParsesRow, standIns := [], harness := (true, "8369e70ffd04258baf0287617d5fbeb474395087a97aff04c94d4222c066a782"), looks := true }, kinds := [], alts := [], laidByText := true, laidKinds := [.data, .data, .data, .data, .sentinel, .sentinel, .pinned], laidTests := true, laidLooks := .later }
def CommandParsesCardSaid : Prop := Claim7.holds Tryd.pinned (.plain (OpenSpec.ofChange commandParsesSpec)) commandParsesCard

/-- THE TIED CARD OF 'bywaylaw30.CommandVerbs'. -/
def commandVerbsCard : Claim7 := { stood := { row := commandVerbsRow, standIns := [], harness := (true, "8369e70ffd04258baf0287617d5fbeb474395087a97aff04c94d4222c066a782"), looks := true }, kinds := [], alts := [], laidByText := true, laidKinds := [.data, .data, .data, .data, .sentinel, .sentinel, .pinned], laidTests := true, laidLooks := .later }
def CommandVerbsCardSaid : Prop := Claim7.holds Tryd.pinned (.plain (OpenSpec.ofChange commandVerbsSpec)) commandVerbsCard

/-- THE TIED CARD OF 'bywaylaw30.CommandSame'. -/
def commandSameCard : Claim7 := { stood := { row := commandSameRow, standIns := [], harness := (true, "8369e70ffd04258baf0287617d5fbeb474395087a97aff04c94d4222c066a782"), looks := true }, kinds := [], alts := [], laidByText := true, laidKinds := [.data, .data, .data, .data, .sentinel, .sentinel, .pinned], laidTests := true, laidLooks := .later }
def CommandSameCardSaid : Prop := Claim7.holds Tryd.pinned (.plain (OpenSpec.ofChange commandSameSpec)) commandSameCard

/-- THE TIED CARD OF 'bywaylaw30.CommandPrints'. -/
def commandPrintsCard : Claim7 := { stood := { row := commandPrintsRow, standIns := [], harness := (true, "8369e70ffd04258baf0287617d5fbeb474395087a97aff04c94d4222c066a782"), looks := true }, kinds := [], alts := [], laidByText := true, laidKinds := [.data, .data, .data, .data, .sentinel, .sentinel, .pinned], laidTests := true, laidLooks := .later }
def CommandPrintsCardSaid : Prop := Claim7.holds Tryd.pinned (.plain (OpenSpec.ofChange commandPrintsSpec)) commandPrintsCard

/-- THE TIED CARD OF 'bywaylaw30.CommandAgain'. -/
def commandAgainCard : Claim7 := { stood := { row := commandAgainRow, standIns := [], harness := (true, "8369e70ffd04258baf0287617d5fbeb474395087a97aff04c94d4222c066a782"), looks := true }, kinds := [], alts := [], laidByText := true, laidKinds := [.data, .data, .data, .data, .sentinel, .sentinel, .pinned], laidTests := true, laidLooks := .later }
def CommandAgainCardSaid : Prop := Claim7.holds Tryd.pinned (.plain (OpenSpec.ofChange commandAgainSpec)) commandAgainCard

/-- THE TIED CARD OF 'bywaylaw30.CommandRound'. -/
def commandRoundCard : Claim7 := { stood := { row := commandRoundRow, standIns := [], harness := (true, "8369e70ffd04258baf0287617d5fbeb474395087a97aff04c94d4222c066a782"), looks := true }, kinds := [], alts := [], laidByText := true, laidKinds := [.data, .data, .data, .data, .sentinel, .sentinel, .pinned], laidTests := true, laidLooks := .later }
def CommandRoundCardSaid : Prop := Claim7.holds Tryd.pinned (.plain (OpenSpec.ofChange commandRoundSpec)) commandRoundCard

/-- THE TIED CARD OF 'bywaylaw30.CommandOne'. -/
def commandOneCard : Claim7 := { stood := { row := commandOneRow, standIns := [], harness := (true, "8369e70ffd04258baf0287617d5fbeb474395087a97aff04c94d4222c066a782"), looks := true }, kinds := [], alts := [], laidByText := true, laidKinds := [.data, .data, .data, .data, .sentinel, .sentinel, .pinned], laidTests := true, laidLooks := .later }
def CommandOneCardSaid : Prop := Claim7.holds Tryd.pinned (.plain (OpenSpec.ofChange commandOneSpec)) commandOneCard

/-- THE SECOND FORM's CARD OF 'bywaylaw30.CommandParses'. -/
def commandParsesUptoCard : Claim7 := { stood := { row := commandParsesUptoRow, standIns := [], harness := (true, "8369e70ffd04258baf0287617d5fbeb474395087a97aff04c94d4222c066a782"), looks := true }, kinds := [], alts := [], laidByText := true, laidKinds := [.data, .data, .data, .data, .sentinel, .sentinel, .pinned], laidTests := true, laidLooks := .later }
def CommandParsesUptoCardSaid : Prop := Claim7.holds Tryd.pinned (.plain (OpenSpec.upto commandParsesSpec)) commandParsesUptoCard

/-- THE SECOND FORM's CARD OF 'bywaylaw30.CommandVerbs'. -/
def commandVerbsUptoCard : Claim7 := { stood := { row := commandVerbsUptoRow, standIns := [], harness := (true, "8369e70ffd04258baf0287617d5fbeb474395087a97aff04c94d4222c066a782"), looks := true }, kinds := [], alts := [], laidByText := true, laidKinds := [.data, .data, .data, .data, .sentinel, .sentinel, .pinned], laidTests := true, laidLooks := .later }
def CommandVerbsUptoCardSaid : Prop := Claim7.holds Tryd.pinned (.plain (OpenSpec.upto commandVerbsSpec)) commandVerbsUptoCard

/-- THE SECOND FORM's CARD OF 'bywaylaw30.CommandSame'. -/
def commandSameUptoCard : Claim7 := { stood := { row := commandSameUptoRow, standIns := [], harness := (true, "8369e70ffd04258baf0287617d5fbeb474395087a97aff04c94d4222c066a782"), looks := true }, kinds := [], alts := [], laidByText := true, laidKinds := [.data, .data, .data, .data, .sentinel, .sentinel, .pinned], laidTests := true, laidLooks := .later }
def CommandSameUptoCardSaid : Prop := Claim7.holds Tryd.pinned (.plain (OpenSpec.upto commandSameSpec)) commandSameUptoCard

/-- THE SECOND FORM's CARD OF 'bywaylaw30.CommandPrints'. -/
def commandPrintsUptoCard : Claim7 := { stood := { row := commandPrintsUptoRow, standIns := [], harness := (true, "8369e70ffd04258baf0287617d5fbeb474395087a97aff04c94d4222c066a782"), looks := true }, kinds := [], alts := [], laidByText := true, laidKinds := [.data, .data, .data, .data, .sentinel, .sentinel, .pinned], laidTests := true, laidLooks := .later }
def CommandPrintsUptoCardSaid : Prop := Claim7.holds Tryd.pinned (.plain (OpenSpec.upto commandPrintsSpec)) commandPrintsUptoCard

/-- THE SECOND FORM's CARD OF 'bywaylaw30.CommandAgain'. -/
def commandAgainUptoCard : Claim7 := { stood := { row := commandAgainUptoRow, standIns := [], harness := (true, "8369e70ffd04258baf0287617d5fbeb474395087a97aff04c94d4222c066a782"), looks := true }, kinds := [], alts := [], laidByText := true, laidKinds := [.data, .data, .data, .data, .sentinel, .sentinel, .pinned], laidTests := true, laidLooks := .later }
def CommandAgainUptoCardSaid : Prop := Claim7.holds Tryd.pinned (.plain (OpenSpec.upto commandAgainSpec)) commandAgainUptoCard

/-- THE SECOND FORM's CARD OF 'bywaylaw30.CommandRound'. -/
def commandRoundUptoCard : Claim7 := { stood := { row := commandRoundUptoRow, standIns := [], harness := (true, "8369e70ffd04258baf0287617d5fbeb474395087a97aff04c94d4222c066a782"), looks := true }, kinds := [], alts := [], laidByText := true, laidKinds := [.data, .data, .data, .data, .sentinel, .sentinel, .pinned], laidTests := true, laidLooks := .later }
def CommandRoundUptoCardSaid : Prop := Claim7.holds Tryd.pinned (.plain (OpenSpec.upto commandRoundSpec)) commandRoundUptoCard

/-- THE SECOND FORM's CARD OF 'bywaylaw30.CommandOne'. -/
def commandOneUptoCard : Claim7 := { stood := { row := commandOneUptoRow, standIns := [], harness := (true, "8369e70ffd04258baf0287617d5fbeb474395087a97aff04c94d4222c066a782"), looks := true }, kinds := [], alts := [], laidByText := true, laidKinds := [.data, .data, .data, .data, .sentinel, .sentinel, .pinned], laidTests := true, laidLooks := .later }
def CommandOneUptoCardSaid : Prop := Claim7.holds Tryd.pinned (.plain (OpenSpec.upto commandOneSpec)) commandOneUptoCard
end Rows
end Go.Proofs.YtikkfbkpgejneaaDoor
