/- JudgeKnown answers true in every world: the evaluator's own run, looked at by the kernel. It holds for the function's whole call; nothing is taken. -/
import Derived.Test.YtnifmjjpfijmgaaGreatEvO
import Derived.Test.YtnifmjjpfijmgaaGreatProg
import Derived.KernelRfl
namespace Go.Proofs.YtnifmjjpfijmgaaGreat
open Go
set_option maxRecDepth 100000
theorem runTrue : Fast.saysTrue Tryz.prog 100000 100000 3 = true := by kernel_rfl
end Go.Proofs.YtnifmjjpfijmgaaGreat
