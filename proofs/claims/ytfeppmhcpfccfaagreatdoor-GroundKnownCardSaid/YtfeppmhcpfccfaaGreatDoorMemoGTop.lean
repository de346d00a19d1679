/- What usufructlaw19.GroundKnown answers, of such arguments: the evaluator's own run, looked at by the kernel. -/
import Derived.Test.YtfeppmhcpfccfaaGreatDoorEvY
import Derived.Test.YtfeppmhcpfccfaaGreatDoorTabs
import Derived.Test.YtfeppmhcpfccfaaGreatDoorGood
import Derived.Test.YtfeppmhcpfccfaaGreatDoorBldI
import Derived.KernelRfl
import Derived.Test.YtfeppmhcpfccfaaGreatDoorMemoGW
import Derived.Test.YtfeppmhcpfccfaaGreatDoorMemoGB
import Derived.Test.YtfeppmhcpfccfaaGreatDoorMemoGC
set_option linter.unusedVariables false
set_option linter.unusedSimpArgs false
namespace Go.Proofs.YtfeppmhcpfccfaaGreatDoor
open Go
set_option maxRecDepth 100000
noncomputable def memoGTop : Fast.Memo := ⟨3, [], .one (.one (.bool true)), []⟩
theorem memoGTop_run : Fast.runM Tryz.prog tabs 2000 100000 100000 [memoGW, memoGB, memoGC] memoGTop [] = true := by kernel_rfl
theorem memoGTop_ok : Fast.MemoOk Tryz.prog tabs memoGTop := Fast.tellsM good bldOk (by kernel_rfl) (by kernel_rfl) (fun e h => by
    simp only [List.mem_cons, List.mem_nil_iff, or_false] at h
    rcases h with rfl | rfl | rfl
    · exact memoGW_ok
    · exact memoGB_ok
    · exact memoGC_ok) memoGTop_run
end Go.Proofs.YtfeppmhcpfccfaaGreatDoor
