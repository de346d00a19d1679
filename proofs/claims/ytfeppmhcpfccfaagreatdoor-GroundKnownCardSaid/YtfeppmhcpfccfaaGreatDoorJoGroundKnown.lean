/- GroundKnown: the closed conditions of its row, each by itself. -/
import Derived.Test.YtfeppmhcpfccfaaGreatDoorRows
import Derived.ProofKit
import Derived.OpenShut
import Derived.KernelRfl
set_option linter.unusedVariables false
set_option linter.unusedSimpArgs false
namespace Go.Proofs.YtfeppmhcpfccfaaGreatDoor.groundKnown
open Go Go.ChangeShapes Go.WideShapes Go.ChangeAt Go.RowKit
set_option maxRecDepth 100000
theorem j_inPlace : (Rows.groundKnownRow.inPlace == Tryz.pinned.checked.prog.inPlace 3) = true := by kernel_rfl
theorem j_unfollowed : (Rows.groundKnownRow.unfollowed == Tryz.pinned.checked.prog.unfollowed 3) = true := by kernel_rfl
theorem j_recurses : (Rows.groundKnownRow.recurses == Tryz.pinned.checked.prog.recurses 3) = true := by kernel_rfl
theorem j_named : (Rows.groundKnownRow.named == Tryz.pinned.checked.prog.varsNamed 3) = true := by kernel_rfl
theorem j_laidOut : laidOutB Tryz.pinned.checked.prog = true := by kernel_rfl
theorem j_mapsRowed : mapsRowed Tryz.pinned.checked.prog = true := by kernel_rfl
theorem j_heard : Tryz.pinned.checked.prog.stopsHeard = true := by kernel_rfl
theorem j_enter : Tryz.pinned.checked.prog.mayEnter = true := by kernel_rfl
theorem j_lifts : (Rows.groundKnownRow.lifted == Tryz.pinned.checked.prog.liftsFinal) = true := by kernel_rfl
theorem j_keys : (Rows.groundKnownRow.plainKeys == Tryz.pinned.checked.prog.plainKeys) = true := by kernel_rfl
theorem j_stops : (Tryz.pinned.checked.prog.stops == []) = true := by kernel_rfl
theorem j_knobs : (Tryz.pinned.checked.prog.stopKnobs == []) = true := by kernel_rfl
theorem j_wf : Rows.groundKnownRow.wf (OpenSpec.ofChange (OpenSpec.ofChange Rows.groundKnownSpec).bare) = true := by kernel_rfl
theorem closed : joinedFacts Tryz.pinned.checked.prog 3 Tryz.f3 (OpenSpec.ofChange Rows.groundKnownSpec).bare Rows.groundKnownRow = true := by
  unfold joinedFacts
  rw [j_inPlace, j_unfollowed, j_recurses, j_named, j_laidOut, j_mapsRowed, j_heard, j_enter, j_lifts, j_keys, j_stops, j_knobs, j_wf]
  kernel_rfl
end Go.Proofs.YtfeppmhcpfccfaaGreatDoor.groundKnown
