/- InferPrims: the closed conditions of its row, each by itself. -/
import Derived.Test.YtpndkjjkdeingaaGreatDoorRows
import Derived.ProofKit
import Derived.OpenShut
import Derived.KernelRfl
set_option linter.unusedVariables false
set_option linter.unusedSimpArgs false
namespace Go.Proofs.YtpndkjjkdeingaaGreatDoor.inferPrims
open Go Go.ChangeShapes Go.WideShapes Go.ChangeAt Go.RowKit
set_option maxRecDepth 100000
theorem j_inPlace : (Rows.inferPrimsUptoRow.inPlace == Tryz.pinned.checked.prog.inPlace 4) = true := by kernel_rfl
theorem j_unfollowed : (Rows.inferPrimsUptoRow.unfollowed == Tryz.pinned.checked.prog.unfollowed 4) = true := by kernel_rfl
theorem j_recurses : (Rows.inferPrimsUptoRow.recurses == Tryz.pinned.checked.prog.recurses 4) = true := by kernel_rfl
theorem j_named : (Rows.inferPrimsUptoRow.named == Tryz.pinned.checked.prog.varsNamed 4) = true := by kernel_rfl
theorem j_laidOut : laidOutB Tryz.pinned.checked.prog = true := by kernel_rfl
theorem j_mapsRowed : mapsRowed Tryz.pinned.checked.prog = true := by kernel_rfl
theorem j_heard : Tryz.pinned.checked.prog.stopsHeard = true := by kernel_rfl
theorem j_enter : Tryz.pinned.checked.prog.mayEnter = true := by kernel_rfl
theorem j_lifts : (Rows.inferPrimsUptoRow.lifted == Tryz.pinned.checked.prog.liftsFinal) = true := by kernel_rfl
theorem j_keys : (Rows.inferPrimsUptoRow.plainKeys == Tryz.pinned.checked.prog.plainKeys) = true := by kernel_rfl
theorem j_stops : (Tryz.pinned.checked.prog.stops == []) = true := by kernel_rfl
theorem j_knobs : (Tryz.pinned.checked.prog.stopKnobs == []) = true := by kernel_rfl
theorem j_wf : Rows.inferPrimsUptoRow.wf (OpenSpec.ofChange (Rows.OpenSpec.upto Rows.inferPrimsSpec).bare) = true := by kernel_rfl
theorem closed : joinedFacts Tryz.pinned.checked.prog 4 Tryz.f4 (Rows.OpenSpec.upto Rows.inferPrimsSpec).bare Rows.inferPrimsUptoRow = true := by
  unfold joinedFacts
  rw [j_inPlace, j_unfollowed, j_recurses, j_named, j_laidOut, j_mapsRowed, j_heard, j_enter, j_lifts, j_keys, j_stops, j_knobs, j_wf]
  kernel_rfl
theorem named : Tryz.pinned.checked.prog.funcNamed Rows.inferPrimsUptoRow.func = some 4 := by kernel_rfl
theorem inst : Tryz.f4.isInstance Tryz.pinned.checked.prog Rows.inferPrimsUptoRow.origin Rows.inferPrimsUptoRow.targs := of_decide_eq_true (by kernel_rfl)
theorem wrap : Tryz.f4.isWrapper Tryz.pinned.checked.prog Rows.inferPrimsUptoRow.wrapper Rows.inferPrimsUptoRow.mainSum := by unfold Func.isWrapper; first | (rw [if_pos (by decide +kernel)]; kernel_rfl) | (rw [if_neg (by decide +kernel)]; exact ⟨rfl, rfl⟩)
end Go.Proofs.YtpndkjjkdeingaaGreatDoor.inferPrims
