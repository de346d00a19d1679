/-
  DERIVED. GIVEN WITH THE SEED: THE CARDS: each row of YtfeppmhcpfccfaaGreatDoorRows.lean that lists a variable, with what it lists TIED to the program's text (the seventh form; the later family's looks); each row that meets fmt, with fmt's text TOLD by the authors' own Lean function (tested against real Go, not proved from fmt's source: count such statements apart). THE CARD IS WHAT COUNTS. Prove the row's statement (the work); the ties are given (YtfeppmhcpfccfaaGreatDoorTie.lean); close each card by the builder's one call (the guide's Derived/Test/ToyasCard.lean, 'card_holds'). Laid BY PROGRAM, IN A SANDBOX (cutbox-door.mjs). By AI agents, Wed Nov 11 2026. No macro, syntax, notation, axiom, sorry.
-/
import Derived.Test.YtfeppmhcpfccfaaGreatDoorRows
import GoSem.ClaimSeven
namespace Go.Proofs.YtfeppmhcpfccfaaGreatDoor
namespace Rows

/-- THE TIED CARD OF 'usufructlaw19.GroundKnown'. -/
def groundKnownCard : Claim7 := { stood := { row := groundKnownRow, standIns := [], harness := (true, "b5bcbe488a46b04b6e7fac3fac421bf65ca4d6521ec12d3e873907b121166fa7"), looks := true }, kinds := [], alts := [], laidByText := true, laidKinds := [.pinned, .data, .data, .listed, .sentinel, .sentinel, .data, .data, .data], laidTests := true, laidLooks := .later }
def GroundKnownCardSaid : Prop := Claim7.holds Tryz.pinned (.plain (OpenSpec.ofChange groundKnownSpec)) groundKnownCard

/-- THE TIED CARD OF 'usufructlaw21.FrontKnown'. -/
def frontKnownCard : Claim7 := { stood := { row := frontKnownRow, standIns := [], harness := (true, "b5bcbe488a46b04b6e7fac3fac421bf65ca4d6521ec12d3e873907b121166fa7"), looks := true }, kinds := [], alts := [], laidByText := true, laidKinds := [.pinned, .data, .data, .listed, .sentinel, .sentinel, .data, .data, .data], laidTests := true, laidLooks := .later }
def FrontKnownCardSaid : Prop := Claim7.holds Tryz.pinned (.plain (OpenSpec.ofChange frontKnownSpec)) frontKnownCard

/-- THE SECOND FORM's CARD OF 'usufructlaw19.GroundKnown'. -/
def groundKnownUptoCard : Claim7 := { stood := { row := groundKnownUptoRow, standIns := [], harness := (true, "b5bcbe488a46b04b6e7fac3fac421bf65ca4d6521ec12d3e873907b121166fa7"), looks := true }, kinds := [], alts := [], laidByText := true, laidKinds := [.pinned, .data, .data, .listed, .sentinel, .sentinel, .data, .data, .data], laidTests := true, laidLooks := .later }
def GroundKnownUptoCardSaid : Prop := Claim7.holds Tryz.pinned (.plain (OpenSpec.upto groundKnownSpec)) groundKnownUptoCard

/-- THE SECOND FORM's CARD OF 'usufructlaw21.FrontKnown'. -/
def frontKnownUptoCard : Claim7 := { stood := { row := frontKnownUptoRow, standIns := [], harness := (true, "b5bcbe488a46b04b6e7fac3fac421bf65ca4d6521ec12d3e873907b121166fa7"), looks := true }, kinds := [], alts := [], laidByText := true, laidKinds := [.pinned, .data, .data, .listed, .sentinel, .sentinel, .data, .data, .data], laidTests := true, laidLooks := .later }
def FrontKnownUptoCardSaid : Prop := Claim7.holds Tryz.pinned (.plain (OpenSpec.upto frontKnownSpec)) frontKnownUptoCard
end Rows
end Go.Proofs.YtfeppmhcpfccfaaGreatDoor
