/- What parse.Parse answers, of such arguments: the evaluator's own run, looked at by the kernel. -/
import Derived.Test.YtfeppmhcpfccfaaGreatDoorEvY
import Derived.Test.YtfeppmhcpfccfaaGreatDoorTabs
import Derived.Test.YtfeppmhcpfccfaaGreatDoorGood
import Derived.Test.YtfeppmhcpfccfaaGreatDoorBldI
import Derived.KernelRfl
set_option linter.unusedVariables false
set_option linter.unusedSimpArgs false
namespace Go.Proofs.YtfeppmhcpfccfaaGreatDoor
open Go
set_option maxRecDepth 100000
noncomputable def memoFEP : Fast.Memo := ⟨15, [.str 12 15203739770080839246219076972], .tup [.one (.slc 0 0 1 1), .row [.int .i64 (.ofNat 0), .int .i64 (.ofNat 0), .int .i64 (.ofNat 0), .int .i64 (.ofNat 0)]], [⟨147, 16, 1, true, [.int .u8 (.ofNat 2), .str 4 1852399981, .int .i64 (.ofNat 4), .int .i64 (.ofNat 1), .int .i64 (.ofNat 5), .nilS 0 0, .nilS 0 0, .bool false, .int .u8 (.ofNat 2), .str 0 0, .int .i64 (.ofNat 1), .int .i64 (.ofNat 11), .int .i64 (.ofNat 1), .int .i64 (.ofNat 12), .nilS 0 0, .nilS 0 0]⟩]⟩
theorem memoFEP_run : Fast.runM Tryz.prog tabs 2000 100000 100000 [] memoFEP [2366] = true := by kernel_rfl
theorem memoFEP_ok : Fast.MemoOk Tryz.prog tabs memoFEP := Fast.tellsM good bldOk (by kernel_rfl) (by kernel_rfl) (fun e h => by cases h) memoFEP_run
end Go.Proofs.YtfeppmhcpfccfaaGreatDoor
