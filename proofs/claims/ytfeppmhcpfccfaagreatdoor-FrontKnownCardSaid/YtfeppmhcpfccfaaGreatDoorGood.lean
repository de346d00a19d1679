/- The program is one that the evaluator takes: its types' zero values name no block, its orders are mixed, no function of it counts goroutines. -/
import Derived.Test.YtfeppmhcpfccfaaGreatDoorSimJ
import Derived.Test.YtfeppmhcpfccfaaGreatDoorProg
import Derived.KernelRfl
set_option linter.unusedVariables false
set_option linter.unusedSimpArgs false
namespace Go.Proofs.YtfeppmhcpfccfaaGreatDoor
open Go
set_option maxRecDepth 100000
def numsB (P : Program) : Bool := P.funcs.all fun fn => !(fn.name == "runtime.NumGoroutine")
theorem goodZeros : Sim.zerosB Tryz.prog = true := by kernel_rfl
theorem goodNums : numsB Tryz.prog = true := by kernel_rfl
theorem goodMixed : (Tryz.prog).follows .mixedOrders = true := by kernel_rfl
theorem good : Sim.Good Tryz.prog := by
  refine ⟨Sim.zeros_of goodZeros, goodMixed, fun f fn h => ?_⟩
  have h1 := goodNums
  unfold numsB at h1
  obtain ⟨hlt, rfl⟩ := Array.getElem?_eq_some_iff.1 h
  have := Array.all_eq_true.1 h1 f hlt
  simpa using this
end Go.Proofs.YtfeppmhcpfccfaaGreatDoor
