/- What usufructlaw18.Schemes answers, of such arguments: the evaluator's own run, looked at by the kernel. -/
import Derived.Test.YtpndkjjkdeingaaGreatDoorEvY
import Derived.Test.YtpndkjjkdeingaaGreatDoorTabs
import Derived.Test.YtpndkjjkdeingaaGreatDoorGood
import Derived.Test.YtpndkjjkdeingaaGreatDoorBldI
import Derived.KernelRfl
set_option linter.unusedVariables false
set_option linter.unusedSimpArgs false
namespace Go.Proofs.YtpndkjjkdeingaaGreatDoor
open Go
set_option maxRecDepth 100000
noncomputable def memoIE : Fast.Memo := ⟨5, [.str 13 9517428245367675804879783486828], .tup [.one (.nilS 0 0), .row [.int .i64 (.ofNat 71), .int .i64 (.ofNat 10), .int .i64 (.ofNat 1), .int .i64 (.ofNat 11)]], []⟩
theorem memoIE_run : Fast.runM Tryz.prog tabs 2000 100000 100000 [] memoIE [] = true := by kernel_rfl
theorem memoIE_ok : Fast.MemoOk Tryz.prog tabs memoIE := Fast.tellsM good bldOk (by kernel_rfl) (by kernel_rfl) (fun e h => by cases h) memoIE_run
end Go.Proofs.YtpndkjjkdeingaaGreatDoor
