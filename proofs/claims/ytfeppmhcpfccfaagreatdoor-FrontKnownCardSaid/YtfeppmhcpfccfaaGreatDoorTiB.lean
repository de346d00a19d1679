/- The program's tie, part B: its variables' initialisers come to their end. Conditions: none. -/
import Derived.Test.YtfeppmhcpfccfaaGreatDoorTiA
set_option linter.unusedVariables false
set_option linter.unusedSimpArgs false
namespace Go.Proofs.YtfeppmhcpfccfaaGreatDoor
open Go
set_option maxRecDepth 100000
theorem ti_done (os : Os) (tape : Tape) : varsDone Tryz.prog 400 (varsId Tryz.prog) os tape = true := by kernel_rfl
end Go.Proofs.YtfeppmhcpfccfaaGreatDoor
