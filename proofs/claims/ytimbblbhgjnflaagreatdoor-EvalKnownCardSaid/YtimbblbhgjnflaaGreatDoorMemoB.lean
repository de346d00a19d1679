/- What usufructlaw25.ran answers, of such arguments: the evaluator's own run, looked at by the kernel. -/
import Derived.Test.YtimbblbhgjnflaaGreatDoorEvY
import Derived.Test.YtimbblbhgjnflaaGreatDoorTabs
import Derived.Test.YtimbblbhgjnflaaGreatDoorGood
import Derived.Test.YtimbblbhgjnflaaGreatDoorBldI
import Derived.KernelRfl
namespace Go.Proofs.YtimbblbhgjnflaaGreatDoor
open Go
set_option maxRecDepth 100000
noncomputable def memoB : Fast.Memo := ⟨4, [.str 19 1073239398740903814043141457768506504995169644, .int .i64 (.ofNat 100)], .tup [.row [.int .u8 (.ofNat 2), .int .u8 (.ofNat 0), .int .i64 (.ofNat 0), .str 0 0, .nilS 0 0, .int .i64 (.ofNat 251), .str 0 0], .one (.int .i64 (.ofNat 4))], []⟩
theorem memoB_run : Fast.runM Tryz.prog tabs 2000 100000 100000 [] memoB [] = true := by kernel_rfl
theorem memoB_ok : Fast.MemoOk Tryz.prog tabs memoB := Fast.tellsM good bldOk (by kernel_rfl) (by kernel_rfl) (fun e h => by cases h) memoB_run
end Go.Proofs.YtimbblbhgjnflaaGreatDoor
