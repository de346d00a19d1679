/- What parse.Parse answers, of such arguments: the evaluator's own run, looked at by the kernel. -/
import Derived.Test.YtfeppmhcpfccfaaGreatDoorEvY
import Derived.Test.YtfeppmhcpfccfaaGreatDoorTabs
import Derived.Test.YtfeppmhcpfccfaaGreatDoorGood
import Derived.Test.YtfeppmhcpfccfaaGreatDoorBldI
import Derived.KernelRfl
set_option linter.unusedVariables false
set_option linter.unusedSimpArgs false
namespace Go.Proofs.YtfeppmhcpfccfaaGreatDoor
open Go
set_option maxRecDepth 100000
noncomputable def memoFBP : Fast.Memo := ⟨15, [.str 33 14488571963857515264067360291839856445175697109320228315544897031421473060054380], .tup [.one (.slc 0 0 1 1), .row [.int .i64 (.ofNat 0), .int .i64 (.ofNat 0), .int .i64 (.ofNat 0), .int .i64 (.ofNat 0)]], [⟨147, 16, 1, true, [.int .u8 (.ofNat 2), .str 1 102, .int .i64 (.ofNat 4), .int .i64 (.ofNat 1), .int .i64 (.ofNat 5), .nilS 0 0, .nilS 0 0, .bool false, .int .u8 (.ofNat 4), .str 1 120, .int .i64 (.ofNat 0), .int .i64 (.ofNat 6), .int .i64 (.ofNat 1), .int .i64 (.ofNat 7), .slc 1 0 1 1, .nilS 0 0]⟩, ⟨145, 8, 1, false, [.int .u8 (.ofNat 8), .str 0 0, .int .i64 (.ofNat 0), .int .i64 (.ofNat 10), .int .i64 (.ofNat 1), .int .i64 (.ofNat 11), .slc 2 0 1 1, .slc 3 0 1 1]⟩, ⟨145, 8, 1, false, [.int .u8 (.ofNat 1), .str 1 120, .int .i64 (.ofNat 0), .int .i64 (.ofNat 15), .int .i64 (.ofNat 1), .int .i64 (.ofNat 16), .nilS 0 0, .nilS 0 0]⟩, ⟨275, 15, 1, false, [.int .u8 (.ofNat 5), .str 4 1702195796, .int .i64 (.ofNat 0), .int .i64 (.ofNat 22), .int .i64 (.ofNat 1), .int .i64 (.ofNat 23), .nilS 0 0, .int .u8 (.ofNat 2), .str 0 0, .int .i64 (.ofNat 1), .int .i64 (.ofNat 30), .int .i64 (.ofNat 1), .int .i64 (.ofNat 31), .nilS 0 0, .nilS 0 0]⟩]⟩
theorem memoFBP_run : Fast.runM Tryz.prog tabs 2000 100000 100000 [] memoFBP [2938, 2934, 2928, 2920] = true := by kernel_rfl
theorem memoFBP_ok : Fast.MemoOk Tryz.prog tabs memoFBP := Fast.tellsM good bldOk (by kernel_rfl) (by kernel_rfl) (fun e h => by cases h) memoFBP_run
end Go.Proofs.YtfeppmhcpfccfaaGreatDoor
