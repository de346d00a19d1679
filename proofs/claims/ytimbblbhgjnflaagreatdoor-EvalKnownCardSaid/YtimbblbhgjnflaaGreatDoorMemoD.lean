/- What usufructlaw25.ran answers, of such arguments: the evaluator's own run, looked at by the kernel. -/
import Derived.Test.YtimbblbhgjnflaaGreatDoorEvY
import Derived.Test.YtimbblbhgjnflaaGreatDoorTabs
import Derived.Test.YtimbblbhgjnflaaGreatDoorGood
import Derived.Test.YtimbblbhgjnflaaGreatDoorBldI
import Derived.KernelRfl
namespace Go.Proofs.YtimbblbhgjnflaaGreatDoor
open Go
set_option maxRecDepth 100000
noncomputable def memoD : Fast.Memo := ⟨4, [.str 71 472219029148753606250944469445491404989272959321695769987017580305655607952320253765183007148332861592236087946856439844414843231333982848800605083983678208688210945795436, .int .i64 (.ofNat 100)], .tup [.row [.int .u8 (.ofNat 1), .int .u8 (.ofNat 2), .int .i64 (.ofNat 0), .str 4 1701736302, .nilS 0 0, .int .i64 (.ofNat 0), .str 0 0], .one (.int .i64 (.ofNat 6))], []⟩
theorem memoD_run : Fast.runM Tryz.prog tabs 2000 100000 100000 [] memoD [] = true := by kernel_rfl
theorem memoD_ok : Fast.MemoOk Tryz.prog tabs memoD := Fast.tellsM good bldOk (by kernel_rfl) (by kernel_rfl) (fun e h => by cases h) memoD_run
end Go.Proofs.YtimbblbhgjnflaaGreatDoor
