/- What usufructlaw18.Schemes answers, of such arguments: the evaluator's own run, looked at by the kernel. -/
import Derived.Test.YtpndkjjkdeingaaGreatDoorEvY
import Derived.Test.YtpndkjjkdeingaaGreatDoorTabs
import Derived.Test.YtpndkjjkdeingaaGreatDoorGood
import Derived.Test.YtpndkjjkdeingaaGreatDoorBldI
import Derived.KernelRfl
set_option linter.unusedVariables false
set_option linter.unusedSimpArgs false
namespace Go.Proofs.YtpndkjjkdeingaaGreatDoor
open Go
set_option maxRecDepth 100000
noncomputable def memoIA : Fast.Memo := ⟨5, [.str 12 37177175468096370674112947564], .tup [.one (.slc 0 0 1 1), .row [.int .i64 (.ofNat 0), .int .i64 (.ofNat 0), .int .i64 (.ofNat 0), .int .i64 (.ofNat 0)]], [⟨9, 1, 1, true, [.str 10 228465248700596033171553]⟩]⟩
theorem memoIA_run : Fast.runM Tryz.prog tabs 2000 100000 100000 [] memoIA [3493] = true := by kernel_rfl
theorem memoIA_ok : Fast.MemoOk Tryz.prog tabs memoIA := Fast.tellsM good bldOk (by kernel_rfl) (by kernel_rfl) (fun e h => by cases h) memoIA_run
end Go.Proofs.YtpndkjjkdeingaaGreatDoor
