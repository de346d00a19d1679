/- What usufructlaw11.known answers, of such arguments: the evaluator's own run, looked at by the kernel. -/
import Derived.Test.YtnneooidkbhbeaaGreatDoorEvY
import Derived.Test.YtnneooidkbhbeaaGreatDoorBldI
import Derived.KernelRfl
set_option linter.unusedVariables false
set_option linter.unusedSimpArgs false
namespace Go.Proofs.YtnneooidkbhbeaaGreatDoor
open Go
set_option maxRecDepth 100000
noncomputable def memoK : Fast.Memo := ⟨7, [], .one (.one (.bool true)), []⟩
theorem memoK_run : Fast.runM Tryz.prog tabs 2000 100000 100000 [] memoK [] = true := by kernel_rfl
theorem memoK_ok : Fast.MemoOk Tryz.prog tabs memoK := Fast.tellsM good bldOk (by kernel_rfl) (by kernel_rfl) (fun e h => by cases h) memoK_run
end Go.Proofs.YtnneooidkbhbeaaGreatDoor
