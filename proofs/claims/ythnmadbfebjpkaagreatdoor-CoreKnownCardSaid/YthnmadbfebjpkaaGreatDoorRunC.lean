/- CoreKnown answers true wherever the tables stand: the evaluator's own run, looked at by the kernel. It holds for the function's whole call; nothing is taken. -/
import Derived.Test.YthnmadbfebjpkaaGreatDoorTabs
namespace Go.Proofs.YthnmadbfebjpkaaGreatDoor
open Go
set_option maxRecDepth 100000
theorem tabsOk : tabs.all (Fast.TabE.ok 2000) = true := by kernel_rfl
theorem runTrue : Fast.saysTrueT Tryz.prog tabs 2000 100000 100000 3 = true := by kernel_rfl
end Go.Proofs.YthnmadbfebjpkaaGreatDoor
