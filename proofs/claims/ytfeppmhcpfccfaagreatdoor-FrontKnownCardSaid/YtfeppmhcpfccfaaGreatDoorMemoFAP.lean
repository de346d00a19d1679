/- What parse.Parse answers, of such arguments: the evaluator's own run, looked at by the kernel. -/
import Derived.Test.YtfeppmhcpfccfaaGreatDoorEvY
import Derived.Test.YtfeppmhcpfccfaaGreatDoorTabs
import Derived.Test.YtfeppmhcpfccfaaGreatDoorGood
import Derived.Test.YtfeppmhcpfccfaaGreatDoorBldI
import Derived.KernelRfl
set_option linter.unusedVariables false
set_option linter.unusedSimpArgs false
namespace Go.Proofs.YtfeppmhcpfccfaaGreatDoor
open Go
set_option maxRecDepth 100000
noncomputable def memoFAP : Fast.Memo := ⟨15, [.str 32 50392468697493116365627216196530066558109070459047712523186624133379891946860], .tup [.one (.slc 0 0 2 2), .row [.int .i64 (.ofNat 0), .int .i64 (.ofNat 0), .int .i64 (.ofNat 0), .int .i64 (.ofNat 0)]], [⟨147, 16, 2, true, [.int .u8 (.ofNat 2), .str 2 25705, .int .i64 (.ofNat 4), .int .i64 (.ofNat 1), .int .i64 (.ofNat 5), .nilS 0 0, .nilS 0 0, .bool false, .int .u8 (.ofNat 4), .str 1 120, .int .i64 (.ofNat 0), .int .i64 (.ofNat 7), .int .i64 (.ofNat 1), .int .i64 (.ofNat 8), .slc 1 0 1 1, .nilS 0 0, .int .u8 (.ofNat 2), .str 4 1852399981, .int .i64 (.ofNat 17), .int .i64 (.ofNat 1), .int .i64 (.ofNat 18), .nilS 0 0, .nilS 0 0, .bool false, .int .u8 (.ofNat 4), .str 2 28521, .int .i64 (.ofNat 0), .int .i64 (.ofNat 22), .int .i64 (.ofNat 1), .int .i64 (.ofNat 23), .slc 2 0 1 1, .nilS 0 0]⟩, ⟨145, 8, 1, false, [.int .u8 (.ofNat 1), .str 1 120, .int .i64 (.ofNat 0), .int .i64 (.ofNat 11), .int .i64 (.ofNat 1), .int .i64 (.ofNat 12), .nilS 0 0, .nilS 0 0]⟩, ⟨145, 8, 1, false, [.int .u8 (.ofNat 5), .str 0 0, .int .i64 (.ofNat 0), .int .i64 (.ofNat 27), .int .i64 (.ofNat 1), .int .i64 (.ofNat 28), .slc 3 0 2 2, .nilS 0 0]⟩, ⟨145, 8, 2, false, [.int .u8 (.ofNat 1), .str 2 25705, .int .i64 (.ofNat 0), .int .i64 (.ofNat 27), .int .i64 (.ofNat 1), .int .i64 (.ofNat 28), .nilS 0 0, .nilS 0 0, .int .u8 (.ofNat 1), .str 2 28521, .int .i64 (.ofNat 0), .int .i64 (.ofNat 30), .int .i64 (.ofNat 1), .int .i64 (.ofNat 31), .nilS 0 0, .nilS 0 0]⟩]⟩
theorem memoFAP_run : Fast.runM Tryz.prog tabs 2000 100000 100000 [] memoFAP [2867, 2741, 2863, 2835] = true := by kernel_rfl
theorem memoFAP_ok : Fast.MemoOk Tryz.prog tabs memoFAP := Fast.tellsM good bldOk (by kernel_rfl) (by kernel_rfl) (fun e h => by cases h) memoFAP_run
end Go.Proofs.YtfeppmhcpfccfaaGreatDoor
