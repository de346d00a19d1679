/- FrontKnown: the closed conditions of its row, each by itself. -/
import Derived.Test.YtfeppmhcpfccfaaGreatDoorRows
import Derived.ProofKit
import Derived.OpenShut
import Derived.KernelRfl
set_option linter.unusedVariables false
set_option linter.unusedSimpArgs false
namespace Go.Proofs.YtfeppmhcpfccfaaGreatDoor.frontKnown
open Go Go.ChangeShapes Go.WideShapes Go.ChangeAt Go.RowKit
set_option maxRecDepth 100000
theorem j_inPlace : (Rows.frontKnownRow.inPlace == Tryz.pinned.checked.prog.inPlace 4) = true := by kernel_rfl
theorem j_unfollowed : (Rows.frontKnownRow.unfollowed == Tryz.pinned.checked.prog.unfollowed 4) = true := by kernel_rfl
theorem j_recurses : (Rows.frontKnownRow.recurses == Tryz.pinned.checked.prog.recurses 4) = true := by kernel_rfl
theorem j_named : (Rows.frontKnownRow.named == Tryz.pinned.checked.prog.varsNamed 4) = true := by kernel_rfl
theorem j_laidOut : laidOutB Tryz.pinned.checked.prog = true := by kernel_rfl
theorem j_mapsRowed : mapsRowed Tryz.pinned.checked.prog = true := by kernel_rfl
theorem j_heard : Tryz.pinned.checked.prog.stopsHeard = true := by kernel_rfl
theorem j_enter : Tryz.pinned.checked.prog.mayEnter = true := by kernel_rfl
theorem j_lifts : (Rows.frontKnownRow.lifted == Tryz.pinned.checked.prog.liftsFinal) = true := by kernel_rfl
theorem j_keys : (Rows.frontKnownRow.plainKeys == Tryz.pinned.checked.prog.plainKeys) = true := by kernel_rfl
theorem j_stops : (Tryz.pinned.checked.prog.stops == []) = true := by kernel_rfl
theorem j_knobs : (Tryz.pinned.checked.prog.stopKnobs == []) = true := by kernel_rfl
theorem j_wf : Rows.frontKnownRow.wf (OpenSpec.ofChange (OpenSpec.ofChange Rows.frontKnownSpec).bare) = true := by kernel_rfl
theorem closed : joinedFacts Tryz.pinned.checked.prog 4 Tryz.f4 (OpenSpec.ofChange Rows.frontKnownSpec).bare Rows.frontKnownRow = true := by
  unfold joinedFacts
  rw [j_inPlace, j_unfollowed, j_recurses, j_named, j_laidOut, j_mapsRowed, j_heard, j_enter, j_lifts, j_keys, j_stops, j_knobs, j_wf]
  kernel_rfl
end Go.Proofs.YtfeppmhcpfccfaaGreatDoor.frontKnown
