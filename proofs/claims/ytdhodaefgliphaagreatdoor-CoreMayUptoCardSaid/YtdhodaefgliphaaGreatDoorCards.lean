/-
  DERIVED. GIVEN WITH THE SEED: THE CARDS: each row of YtdhodaefgliphaaGreatDoorRows.lean that lists a variable, with what it lists TIED to the program's text (the seventh form; the later family's looks); each row that meets fmt, with fmt's text TOLD by the authors' own Lean function (tested against real Go, not proved from fmt's source: count such statements apart). THE CARD IS WHAT COUNTS. Prove the row's statement (the work); the ties are given (YtdhodaefgliphaaGreatDoorTie.lean); close each card by the builder's one call (the guide's Derived/Test/ToyasCard.lean, 'card_holds'). Laid BY PROGRAM, IN A SANDBOX (cutbox-door.mjs). By AI agents, Wed Nov 11 2026. No macro, syntax, notation, axiom, sorry.
-/
import Derived.Test.YtdhodaefgliphaaGreatDoorRows
import GoSem.ClaimSeven
namespace Go.Proofs.YtdhodaefgliphaaGreatDoor
namespace Rows

/-- THE TIED CARD OF 'usufructlaw14.CoreMay'. -/
def coreMayCard : Claim7 := { stood := { row := coreMayRow, standIns := [], harness := (true, "ec1ffd3fd8c95a2f3fb91bc712d32dfc8e1609cf5bfac54a1fb282da5791af1e"), looks := true }, kinds := [], alts := [], laidByText := true, laidKinds := [.data, .data, .data, .data, .sentinel, .sentinel, .listed, .data, .pinned], laidTests := true, laidLooks := .later }
def CoreMayCardSaid : Prop := Claim7.holds Tryz.pinned (.plain (OpenSpec.ofChange coreMaySpec)) coreMayCard

/-- THE SECOND FORM's CARD OF 'usufructlaw14.CoreMay'. -/
def coreMayUptoCard : Claim7 := { stood := { row := coreMayUptoRow, standIns := [], harness := (true, "ec1ffd3fd8c95a2f3fb91bc712d32dfc8e1609cf5bfac54a1fb282da5791af1e"), looks := true }, kinds := [], alts := [], laidByText := true, laidKinds := [.data, .data, .data, .data, .sentinel, .sentinel, .listed, .data, .pinned], laidTests := true, laidLooks := .later }
def CoreMayUptoCardSaid : Prop := Claim7.holds Tryz.pinned (.plain (OpenSpec.upto coreMaySpec)) coreMayUptoCard
end Rows
end Go.Proofs.YtdhodaefgliphaaGreatDoor
