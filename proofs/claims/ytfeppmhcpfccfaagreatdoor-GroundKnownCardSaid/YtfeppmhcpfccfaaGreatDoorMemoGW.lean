/- What usufructlaw19.works answers, of such arguments: the evaluator's own run, looked at by the kernel. -/
import Derived.Test.YtfeppmhcpfccfaaGreatDoorEvY
import Derived.Test.YtfeppmhcpfccfaaGreatDoorTabs
import Derived.Test.YtfeppmhcpfccfaaGreatDoorGood
import Derived.Test.YtfeppmhcpfccfaaGreatDoorBldI
import Derived.KernelRfl
import Derived.Test.YtfeppmhcpfccfaaGreatDoorMemoGA
set_option linter.unusedVariables false
set_option linter.unusedSimpArgs false
namespace Go.Proofs.YtfeppmhcpfccfaaGreatDoor
open Go
set_option maxRecDepth 100000
noncomputable def memoGW : Fast.Memo := ⟨6, [], .one (.one (.bool true)), []⟩
theorem memoGW_run : Fast.runM Tryz.prog tabs 2000 100000 100000 [memoGA] memoGW [] = true := by kernel_rfl
theorem memoGW_ok : Fast.MemoOk Tryz.prog tabs memoGW := Fast.tellsM good bldOk (by kernel_rfl) (by kernel_rfl) (fun e h => by
    simp only [List.mem_cons, List.mem_nil_iff, or_false] at h
    subst h
    exact memoGA_ok) memoGW_run
end Go.Proofs.YtfeppmhcpfccfaaGreatDoor
