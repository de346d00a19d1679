/-
  DERIVED. GIVEN WITH THE SEED: THE CARDS: each row of YtpndkjjkdeingaaGreatDoorRows.lean that lists a variable, with what it lists TIED to the program's text (the seventh form; the later family's looks); each row that meets fmt, with fmt's text TOLD by the authors' own Lean function (tested against real Go, not proved from fmt's source: count such statements apart). THE CARD IS WHAT COUNTS. Prove the row's statement (the work); the ties are given (YtpndkjjkdeingaaGreatDoorTie.lean); close each card by the builder's one call (the guide's Derived/Test/ToyasCard.lean, 'card_holds'). Laid BY PROGRAM, IN A SANDBOX (cutbox-door.mjs). By AI agents, Wed Nov 11 2026. No macro, syntax, notation, axiom, sorry.
-/
import Derived.Test.YtpndkjjkdeingaaGreatDoorRows
import GoSem.ClaimSeven
namespace Go.Proofs.YtpndkjjkdeingaaGreatDoor
namespace Rows

/-- THE TIED CARD OF 'usufructlaw18.InferKnown'. -/
def inferKnownCard : Claim7 := { stood := { row := inferKnownRow, standIns := [], harness := (true, "91308dbe4127ff40d48990bef7c7d0a11ac72b042ff8bc0f2fd7c8a2d60769d2"), looks := true }, kinds := [], alts := [], laidByText := true, laidKinds := [.pinned, .data, .data, .listed, .sentinel, .sentinel, .data, .data, .data], laidTests := true, laidLooks := .later }
def InferKnownCardSaid : Prop := Claim7.holds Tryz.pinned (.plain (OpenSpec.ofChange inferKnownSpec)) inferKnownCard

/-- THE TIED CARD OF 'usufructlaw18.InferPrims'. -/
def inferPrimsCard : Claim7 := { stood := { row := inferPrimsRow, standIns := [], harness := (true, "91308dbe4127ff40d48990bef7c7d0a11ac72b042ff8bc0f2fd7c8a2d60769d2"), looks := true }, kinds := [], alts := [], laidByText := true, laidKinds := [.pinned, .data, .data, .listed, .sentinel, .sentinel, .data, .data, .data], laidTests := true, laidLooks := .later }
def InferPrimsCardSaid : Prop := Claim7.holds Tryz.pinned (.plain (OpenSpec.ofChange inferPrimsSpec)) inferPrimsCard

/-- THE SECOND FORM's CARD OF 'usufructlaw18.InferKnown'. -/
def inferKnownUptoCard : Claim7 := { stood := { row := inferKnownUptoRow, standIns := [], harness := (true, "91308dbe4127ff40d48990bef7c7d0a11ac72b042ff8bc0f2fd7c8a2d60769d2"), looks := true }, kinds := [], alts := [], laidByText := true, laidKinds := [.pinned, .data, .data, .listed, .sentinel, .sentinel, .data, .data, .data], laidTests := true, laidLooks := .later }
def InferKnownUptoCardSaid : Prop := Claim7.holds Tryz.pinned (.plain (OpenSpec.upto inferKnownSpec)) inferKnownUptoCard

/-- THE SECOND FORM's CARD OF 'usufructlaw18.InferPrims'. -/
def inferPrimsUptoCard : Claim7 := { stood := { row := inferPrimsUptoRow, standIns := [], harness := (true, "91308dbe4127ff40d48990bef7c7d0a11ac72b042ff8bc0f2fd7c8a2d60769d2"), looks := true }, kinds := [], alts := [], laidByText := true, laidKinds := [.pinned, .data, .data, .listed, .sentinel, .sentinel, .data, .data, .data], laidTests := true, laidLooks := .later }
def InferPrimsUptoCardSaid : Prop := Claim7.holds Tryz.pinned (.plain (OpenSpec.upto inferPrimsSpec)) inferPrimsUptoCard
end Rows
end Go.Proofs.YtpndkjjkdeingaaGreatDoor
