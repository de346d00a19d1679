/- What usufructlaw25.ran answers, of such arguments: the evaluator's own run, looked at by the kernel. -/
import Derived.Test.YtimbblbhgjnflaaGreatDoorEvY
import Derived.Test.YtimbblbhgjnflaaGreatDoorTabs
import Derived.Test.YtimbblbhgjnflaaGreatDoorGood
import Derived.Test.YtimbblbhgjnflaaGreatDoorBldI
import Derived.KernelRfl
import Derived.Test.YtimbblbhgjnflaaGreatDoorMemoC0
namespace Go.Proofs.YtimbblbhgjnflaaGreatDoor
open Go
set_option maxRecDepth 100000
noncomputable def memoC : Fast.Memo := ⟨4, [.str 47 24904911616860234236918708301769505355575432640860378878172242643024142619442574624932104977895737965108708795756, .int .i64 (.ofNat 100)], .tup [.row [.int .u8 (.ofNat 1), .int .u8 (.ofNat 11), .int .i64 (.ofNat 3), .str 0 0, .slc 0 0 2 2, .int .i64 (.ofNat 0), .str 0 0], .one (.int .i64 (.ofNat 12))], [⟨24, 4, 2, true, [.int .u8 (.ofNat 11), .int .i64 (.ofNat 5), .str 0 0, .slc 1 0 2 2, .int .u8 (.ofNat 11), .int .i64 (.ofNat 5), .str 0 0, .slc 2 0 2 2]⟩, ⟨24, 4, 2, true, [.int .u8 (.ofNat 1), .int .i64 (.ofNat 1), .str 0 0, .nilS 0 0, .int .u8 (.ofNat 4), .int .i64 (.ofNat 4), .str 0 0, .nilS 0 0]⟩, ⟨24, 4, 2, true, [.int .u8 (.ofNat 1), .int .i64 (.ofNat 1), .str 0 0, .nilS 0 0, .int .u8 (.ofNat 4), .int .i64 (.ofNat 4), .str 0 0, .nilS 0 0]⟩]⟩
theorem memoC_run : Fast.runM Tryz.prog tabs 2000 100000 100000 [memoC0] memoC [2489, 2469, 2487] = true := by kernel_rfl
theorem memoC_ok : Fast.MemoOk Tryz.prog tabs memoC := Fast.tellsM good bldOk (by kernel_rfl) (by kernel_rfl) (fun e h => by
    simp only [List.mem_cons, List.mem_nil_iff, or_false] at h
    subst h
    exact memoC0_ok) memoC_run
end Go.Proofs.YtimbblbhgjnflaaGreatDoor
