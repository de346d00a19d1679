/- What parse.Parse answers, of such arguments: the evaluator's own run, looked at by the kernel. -/
import Derived.Test.YtfeppmhcpfccfaaGreatDoorEvY
import Derived.Test.YtfeppmhcpfccfaaGreatDoorTabs
import Derived.Test.YtfeppmhcpfccfaaGreatDoorGood
import Derived.Test.YtfeppmhcpfccfaaGreatDoorBldI
import Derived.KernelRfl
set_option linter.unusedVariables false
set_option linter.unusedSimpArgs false
namespace Go.Proofs.YtfeppmhcpfccfaaGreatDoor
open Go
set_option maxRecDepth 100000
noncomputable def memoFCP : Fast.Memo := ⟨15, [.str 41 267267011603378600916206382179023423770465876676688777635744451506087420272513365403831679677916524], .tup [.one (.slc 0 0 1 1), .row [.int .i64 (.ofNat 0), .int .i64 (.ofNat 0), .int .i64 (.ofNat 0), .int .i64 (.ofNat 0)]], [⟨147, 16, 1, true, [.int .u8 (.ofNat 2), .str 1 102, .int .i64 (.ofNat 4), .int .i64 (.ofNat 1), .int .i64 (.ofNat 5), .nilS 0 0, .nilS 0 0, .bool false, .int .u8 (.ofNat 4), .str 1 120, .int .i64 (.ofNat 0), .int .i64 (.ofNat 6), .int .i64 (.ofNat 1), .int .i64 (.ofNat 7), .slc 1 0 1 1, .nilS 0 0]⟩, ⟨145, 8, 1, false, [.int .u8 (.ofNat 8), .str 0 0, .int .i64 (.ofNat 0), .int .i64 (.ofNat 10), .int .i64 (.ofNat 1), .int .i64 (.ofNat 11), .slc 2 0 1 1, .slc 3 0 2 2]⟩, ⟨145, 8, 1, false, [.int .u8 (.ofNat 1), .str 1 120, .int .i64 (.ofNat 0), .int .i64 (.ofNat 15), .int .i64 (.ofNat 1), .int .i64 (.ofNat 16), .nilS 0 0, .nilS 0 0]⟩, ⟨275, 15, 2, true, [.int .u8 (.ofNat 1), .str 1 97, .int .i64 (.ofNat 0), .int .i64 (.ofNat 22), .int .i64 (.ofNat 1), .int .i64 (.ofNat 23), .nilS 0 0, .int .u8 (.ofNat 2), .str 0 0, .int .i64 (.ofNat 1), .int .i64 (.ofNat 27), .int .i64 (.ofNat 1), .int .i64 (.ofNat 28), .nilS 0 0, .nilS 0 0, .int .u8 (.ofNat 5), .str 4 1702195796, .int .i64 (.ofNat 0), .int .i64 (.ofNat 30), .int .i64 (.ofNat 1), .int .i64 (.ofNat 31), .nilS 0 0, .int .u8 (.ofNat 2), .str 0 0, .int .i64 (.ofNat 2), .int .i64 (.ofNat 38), .int .i64 (.ofNat 1), .int .i64 (.ofNat 39), .nilS 0 0, .nilS 0 0]⟩]⟩
theorem memoFCP_run : Fast.runM Tryz.prog tabs 2000 100000 100000 [] memoFCP [3254, 3250, 3244, 3236] = true := by kernel_rfl
theorem memoFCP_ok : Fast.MemoOk Tryz.prog tabs memoFCP := Fast.tellsM good bldOk (by kernel_rfl) (by kernel_rfl) (fun e h => by cases h) memoFCP_run
end Go.Proofs.YtfeppmhcpfccfaaGreatDoor
