/- The program is one that the evaluator takes: its types' zero values name no block, its orders are mixed, no function of it counts goroutines; where nothing is unknown. -/
import Derived.Test.YtpndkjjkdeingaaGreatDoorAtSimJ
import Derived.Test.YtpndkjjkdeingaaGreatDoorProg
import Derived.KernelRfl
set_option linter.unusedVariables false
set_option linter.unusedSimpArgs false
namespace Go.Proofs.YtpndkjjkdeingaaGreatDoor
open Go
set_option maxRecDepth 100000
def numsB (P : Program) : Bool := P.funcs.all fun fn => !(fn.name == "runtime.NumGoroutine")
/-- nothing is unknown -/
@[reducible] def noAtoms : Sim.Atoms := ⟨fun _ => .nilIface, fun _ => ⟨fun _ h => (by cases h), fun _ h => (by cases h)⟩, fun _ _ h => (by cases h), [], fun _ => True, 0, fun _ _ => Nat.zero_le _, fun _ _ _ _ _ _ => trivial⟩
theorem goodZeros : Sim.zerosB Tryz.prog = true := by kernel_rfl
theorem goodNums : numsB Tryz.prog = true := by kernel_rfl
theorem goodMixed : (Tryz.prog).follows .mixedOrders = true := by kernel_rfl
theorem goodNames (f : Nat) (fn : Func) (h : (Tryz.prog).funcs[f]? = some fn) : (fn.name == "runtime.NumGoroutine") = false := by
  have h1 := goodNums
  unfold numsB at h1
  obtain ⟨hlt, rfl⟩ := Array.getElem?_eq_some_iff.1 h
  have := Array.all_eq_true.1 h1 f hlt
  simpa using this
theorem good : @Sim.Good noAtoms Tryz.prog :=
  letI := noAtoms
  ⟨Sim.zeros_of goodZeros, goodMixed, goodNames, fun e h => (by cases h)⟩
end Go.Proofs.YtpndkjjkdeingaaGreatDoor
