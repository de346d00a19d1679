/- What usufructlaw25.ran answers, of such arguments: the evaluator's own run, looked at by the kernel. -/
import Derived.Test.YtimbblbhgjnflaaGreatDoorEvY
import Derived.Test.YtimbblbhgjnflaaGreatDoorTabs
import Derived.Test.YtimbblbhgjnflaaGreatDoorGood
import Derived.Test.YtimbblbhgjnflaaGreatDoorBldI
import Derived.KernelRfl
namespace Go.Proofs.YtimbblbhgjnflaaGreatDoor
open Go
set_option maxRecDepth 100000
noncomputable def memoF : Fast.Memo := ⟨4, [.str 22 41683672272596652690226071718195274760821970040022380, .int .i64 (.ofNat 100)], .tup [.row [.int .u8 (.ofNat 1), .int .u8 (.ofNat 3), .int .i64 (.ofNat 0), .str 0 0, .nilS 0 0, .int .i64 (.ofNat 0), .str 0 0], .one (.int .i64 (.ofNat 2))], []⟩
theorem memoF_run : Fast.runM Tryz.prog tabs 2000 100000 100000 [] memoF [] = true := by kernel_rfl
theorem memoF_ok : Fast.MemoOk Tryz.prog tabs memoF := Fast.tellsM good bldOk (by kernel_rfl) (by kernel_rfl) (fun e h => by cases h) memoF_run
end Go.Proofs.YtimbblbhgjnflaaGreatDoor
