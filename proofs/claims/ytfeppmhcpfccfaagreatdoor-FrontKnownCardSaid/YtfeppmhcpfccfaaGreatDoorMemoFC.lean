/- What front.Check answers, of such arguments: the evaluator's own run, looked at by the kernel. -/
import Derived.Test.YtfeppmhcpfccfaaGreatDoorEvY
import Derived.Test.YtfeppmhcpfccfaaGreatDoorTabs
import Derived.Test.YtfeppmhcpfccfaaGreatDoorGood
import Derived.Test.YtfeppmhcpfccfaaGreatDoorBldI
import Derived.KernelRfl
import Derived.Test.YtfeppmhcpfccfaaGreatDoorMemoFCP
set_option linter.unusedVariables false
set_option linter.unusedSimpArgs false
namespace Go.Proofs.YtfeppmhcpfccfaaGreatDoor
open Go
set_option maxRecDepth 100000
noncomputable def memoFC : Fast.Memo := ⟨9, [.str 41 267267011603378600916206382179023423770465876676688777635744451506087420272513365403831679677916524], .tup [.row [.nilS 0 0, .nilS 0 0, .nilS 0 0, .int .i64 (.ofNat 0), .nilS 0 0, .nilS 0 0], .row [.int .i64 (.ofNat 151), .int .i64 (.ofNat 30), .int .i64 (.ofNat 1), .int .i64 (.ofNat 31)]], []⟩
theorem memoFC_run : Fast.runM Tryz.prog tabs 2000 100000 100000 [memoFCP] memoFC [] = true := by kernel_rfl
theorem memoFC_ok : Fast.MemoOk Tryz.prog tabs memoFC := Fast.tellsM good bldOk (by kernel_rfl) (by kernel_rfl) (fun e h => by
    simp only [List.mem_cons, List.mem_nil_iff, or_false] at h
    subst h
    exact memoFCP_ok) memoFC_run
end Go.Proofs.YtfeppmhcpfccfaaGreatDoor
