/-
  DERIVED. GIVEN WITH THE SEED: THE CARDS: each row of YthhphmhddeoagaaDoorRows.lean that lists a variable, with what it lists TIED to the program's text (the seventh form; the later family's looks); each row that meets fmt, with fmt's text TOLD by the authors' own Lean function (tested against real Go, not proved from fmt's source: count such statements apart). THE CARD IS WHAT COUNTS. Prove the row's statement (the work); the ties are given (YthhphmhddeoagaaDoorTie.lean); close each card by the builder's one call (the guide's Derived/Test/ToyasCard.lean, 'card_holds'). Laid BY PROGRAM, IN A SANDBOX (cutbox-door.mjs). By AI agents, Wed Nov 11 2026. No macro, syntax, notation, axiom, sorry.
-/
import Derived.Test.YthhphmhddeoagaaDoorRows
import GoSem.ClaimSeven
namespace Go.Proofs.YthhphmhddeoagaaDoor
namespace Rows

/-- THE TIED CARD OF 'usufructlaw09.UtfPoints'. -/
def utfPointsCard : Claim7 := { stood := { row := utfPointsRow, standIns := [], harness := (true, "285e919f5dabb5915c7c013cd46dcf835d428f69be7af7e4b436edbca36d6e62"), looks := false }, kinds := [], alts := [], laidByText := true, laidKinds := [.data, .pinned], laidTests := true, laidLooks := .later }
def UtfPointsCardSaid : Prop := Claim7.holds Tryd.pinned (.plain (OpenSpec.ofChange utfPointsSpec)) utfPointsCard

/-- THE TIED CARD OF 'usufructlaw09.UtfPuts'. -/
def utfPutsCard : Claim7 := { stood := { row := utfPutsRow, standIns := [], harness := (true, "285e919f5dabb5915c7c013cd46dcf835d428f69be7af7e4b436edbca36d6e62"), looks := false }, kinds := [], alts := [], laidByText := true, laidKinds := [.data, .pinned], laidTests := true, laidLooks := .later }
def UtfPutsCardSaid : Prop := Claim7.holds Tryd.pinned (.plain (OpenSpec.ofChange utfPutsSpec)) utfPutsCard

/-- THE TIED CARD OF 'usufructlaw09.UtfBack'. -/
def utfBackCard : Claim7 := { stood := { row := utfBackRow, standIns := [], harness := (true, "285e919f5dabb5915c7c013cd46dcf835d428f69be7af7e4b436edbca36d6e62"), looks := false }, kinds := [], alts := [], laidByText := true, laidKinds := [.data, .pinned], laidTests := true, laidLooks := .later }
def UtfBackCardSaid : Prop := Claim7.holds Tryd.pinned (.plain (OpenSpec.ofChange utfBackSpec)) utfBackCard

/-- THE TIED CARD OF 'usufructlaw09.UtfJoins'. -/
def utfJoinsCard : Claim7 := { stood := { row := utfJoinsRow, standIns := [], harness := (true, "285e919f5dabb5915c7c013cd46dcf835d428f69be7af7e4b436edbca36d6e62"), looks := false }, kinds := [], alts := [], laidByText := true, laidKinds := [.data, .pinned], laidTests := true, laidLooks := .later }
def UtfJoinsCardSaid : Prop := Claim7.holds Tryd.pinned (.plain (OpenSpec.ofChange utfJoinsSpec)) utfJoinsCard

/-- THE TIED CARD OF 'usufructlaw09.UtfCut'. -/
def utfCutCard : Claim7 := { stood := { row := utfCutRow, standIns := [], harness := (true, "285e919f5dabb5915c7c013cd46dcf835d428f69be7af7e4b436edbca36d6e62"), looks := false }, kinds := [], alts := [], laidByText := true, laidKinds := [.data, .pinned], laidTests := true, laidLooks := .later }
def UtfCutCardSaid : Prop := Claim7.holds Tryd.pinned (.plain (OpenSpec.ofChange utfCutSpec)) utfCutCard

/-- THE SECOND FORM's CARD OF 'usufructlaw09.UtfPoints'. -/
def utfPointsUptoCard : Claim7 := { stood := { row := utfPointsUptoRow, standIns := [], harness := (true, "285e919f5dabb5915c7c013cd46dcf835d428f69be7af7e4b436edbca36d6e62"), looks := false }, kinds := [], alts := [], laidByText := true, laidKinds := [.data, .pinned], laidTests := true, laidLooks := .later }
def UtfPointsUptoCardSaid : Prop := Claim7.holds Tryd.pinned (.plain (OpenSpec.upto utfPointsSpec)) utfPointsUptoCard

/-- THE SECOND FORM's CARD OF 'usufructlaw09.UtfPuts'. -/
def utfPutsUptoCard : Claim7 := { stood := { row := utfPutsUptoRow, standIns := [], harness := (true, "285e919f5dabb5915c7c013cd46dcf835d428f69be7af7e4b436edbca36d6e62"), looks := false }, kinds := [], alts := [], laidByText := true, laidKinds := [.data, .pinned], laidTests := true, laidLooks := .later }
def UtfPutsUptoCardSaid : Prop := Claim7.holds Tryd.pinned (.plain (OpenSpec.upto utfPutsSpec)) utfPutsUptoCard

/-- THE SECOND FORM's CARD OF 'usufructlaw09.UtfBack'. -/
def utfBackUptoCard : Claim7 := { stood := { row := utfBackUptoRow, standIns := [], harness := (true, "285e919f5dabb5915c7c013cd46dcf835d428f69be7af7e4b436edbca36d6e62"), looks := false }, kinds := [], alts := [], laidByText := true, laidKinds := [.data, .pinned], laidTests := true, laidLooks := .later }
def UtfBackUptoCardSaid : Prop := Claim7.holds Tryd.pinned (.plain (OpenSpec.upto utfBackSpec)) utfBackUptoCard

/-- THE SECOND FORM's CARD OF 'usufructlaw09.UtfJoins'. -/
def utfJoinsUptoCard : Claim7 := { stood := { row := utfJoinsUptoRow, standIns := [], harness := (true, "285e919f5dabb5915c7c013cd46dcf835d428f69be7af7e4b436edbca36d6e62"), looks := false }, kinds := [], alts := [], laidByText := true, laidKinds := [.data, .pinned], laidTests := true, laidLooks := .later }
def UtfJoinsUptoCardSaid : Prop := Claim7.holds Tryd.pinned (.plain (OpenSpec.upto utfJoinsSpec)) utfJoinsUptoCard

/-- THE SECOND FORM's CARD OF 'usufructlaw09.UtfCut'. -/
def utfCutUptoCard : Claim7 := { stood := { row := utfCutUptoRow, standIns := [], harness := (true, "285e919f5dabb5915c7c013cd46dcf835d428f69be7af7e4b436edbca36d6e62"), looks := false }, kinds := [], alts := [], laidByText := true, laidKinds := [.data, .pinned], laidTests := true, laidLooks := .later }
def UtfCutUptoCardSaid : Prop := Claim7.holds Tryd.pinned (.plain (OpenSpec.upto utfCutSpec)) utfCutUptoCard
end Rows
end Go.Proofs.YthhphmhddeoagaaDoor
