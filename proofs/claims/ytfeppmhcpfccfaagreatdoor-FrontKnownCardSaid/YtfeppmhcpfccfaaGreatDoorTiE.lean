/- The program's tie, part E: the variables' function names what is listed, in order. Conditions: none. -/
import Derived.Test.YtfeppmhcpfccfaaGreatDoorTiA
set_option linter.unusedVariables false
set_option linter.unusedSimpArgs false
namespace Go.Proofs.YtfeppmhcpfccfaaGreatDoor
open Go
set_option maxRecDepth 100000
theorem ti_named : varsNamedLaterB Tryz.prog (varsId Tryz.prog) tieL = true := by kernel_rfl
end Go.Proofs.YtfeppmhcpfccfaaGreatDoor
