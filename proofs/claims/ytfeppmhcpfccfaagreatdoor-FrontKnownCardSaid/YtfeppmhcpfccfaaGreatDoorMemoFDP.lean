/- What parse.Parse answers, of such arguments: the evaluator's own run, looked at by the kernel. -/
import Derived.Test.YtfeppmhcpfccfaaGreatDoorEvY
import Derived.Test.YtfeppmhcpfccfaaGreatDoorTabs
import Derived.Test.YtfeppmhcpfccfaaGreatDoorGood
import Derived.Test.YtfeppmhcpfccfaaGreatDoorBldI
import Derived.KernelRfl
set_option linter.unusedVariables false
set_option linter.unusedSimpArgs false
namespace Go.Proofs.YtfeppmhcpfccfaaGreatDoor
open Go
set_option maxRecDepth 100000
noncomputable def memoFDP : Fast.Memo := ⟨15, [.str 21 175565563100323950586809183719058224255443242607980], .tup [.one (.slc 0 0 1 1), .row [.int .i64 (.ofNat 0), .int .i64 (.ofNat 0), .int .i64 (.ofNat 0), .int .i64 (.ofNat 0)]], [⟨147, 16, 1, true, [.int .u8 (.ofNat 2), .str 4 1852399981, .int .i64 (.ofNat 4), .int .i64 (.ofNat 1), .int .i64 (.ofNat 5), .nilS 0 0, .nilS 0 0, .bool false, .int .u8 (.ofNat 4), .str 1 120, .int .i64 (.ofNat 0), .int .i64 (.ofNat 9), .int .i64 (.ofNat 1), .int .i64 (.ofNat 10), .slc 1 0 1 1, .nilS 0 0]⟩, ⟨145, 8, 1, false, [.int .u8 (.ofNat 9), .str 4 1919508816, .int .i64 (.ofNat 0), .int .i64 (.ofNat 13), .int .i64 (.ofNat 1), .int .i64 (.ofNat 14), .slc 2 0 2 2, .nilS 0 0]⟩, ⟨145, 8, 2, true, [.int .u8 (.ofNat 1), .str 1 120, .int .i64 (.ofNat 0), .int .i64 (.ofNat 18), .int .i64 (.ofNat 1), .int .i64 (.ofNat 19), .nilS 0 0, .nilS 0 0, .int .u8 (.ofNat 1), .str 1 120, .int .i64 (.ofNat 0), .int .i64 (.ofNat 20), .int .i64 (.ofNat 1), .int .i64 (.ofNat 21), .nilS 0 0, .nilS 0 0]⟩]⟩
theorem memoFDP_run : Fast.runM Tryz.prog tabs 2000 100000 100000 [] memoFDP [2530, 2526, 2495] = true := by kernel_rfl
theorem memoFDP_ok : Fast.MemoOk Tryz.prog tabs memoFDP := Fast.tellsM good bldOk (by kernel_rfl) (by kernel_rfl) (fun e h => by cases h) memoFDP_run
end Go.Proofs.YtfeppmhcpfccfaaGreatDoor
