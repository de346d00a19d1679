/- What usufructlaw25.ran answers, of such arguments: the evaluator's own run, looked at by the kernel. -/
import Derived.Test.YtimbblbhgjnflaaGreatDoorEvY
import Derived.Test.YtimbblbhgjnflaaGreatDoorTabs
import Derived.Test.YtimbblbhgjnflaaGreatDoorGood
import Derived.Test.YtimbblbhgjnflaaGreatDoorBldI
import Derived.KernelRfl
namespace Go.Proofs.YtimbblbhgjnflaaGreatDoor
open Go
set_option maxRecDepth 100000
noncomputable def memoA : Fast.Memo := ⟨4, [.str 19 1117839528008497376572359040815373500934284652, .int .i64 (.ofNat 100)], .tup [.row [.int .u8 (.ofNat 1), .int .u8 (.ofNat 1), .int .i64 (.ofNat 3), .str 0 0, .nilS 0 0, .int .i64 (.ofNat 0), .str 0 0], .one (.int .i64 (.ofNat 4))], []⟩
theorem memoA_run : Fast.runM Tryz.prog tabs 2000 100000 100000 [] memoA [] = true := by kernel_rfl
theorem memoA_ok : Fast.MemoOk Tryz.prog tabs memoA := Fast.tellsM good bldOk (by kernel_rfl) (by kernel_rfl) (fun e h => by cases h) memoA_run
end Go.Proofs.YtimbblbhgjnflaaGreatDoor
