/- What usufructlaw21.works answers, of such arguments: the evaluator's own run, looked at by the kernel. -/
import Derived.Test.YtfeppmhcpfccfaaGreatDoorEvY
import Derived.Test.YtfeppmhcpfccfaaGreatDoorTabs
import Derived.Test.YtfeppmhcpfccfaaGreatDoorGood
import Derived.Test.YtfeppmhcpfccfaaGreatDoorBldI
import Derived.KernelRfl
import Derived.Test.YtfeppmhcpfccfaaGreatDoorMemoFA
import Derived.Test.YtfeppmhcpfccfaaGreatDoorMemoFB
set_option linter.unusedVariables false
set_option linter.unusedSimpArgs false
namespace Go.Proofs.YtfeppmhcpfccfaaGreatDoor
open Go
set_option maxRecDepth 100000
noncomputable def memoFW : Fast.Memo := ⟨11, [], .one (.one (.bool true)), []⟩
theorem memoFW_run : Fast.runM Tryz.prog tabs 2000 100000 100000 [memoFA, memoFB] memoFW [] = true := by kernel_rfl
theorem memoFW_ok : Fast.MemoOk Tryz.prog tabs memoFW := Fast.tellsM good bldOk (by kernel_rfl) (by kernel_rfl) (fun e h => by
    simp only [List.mem_cons, List.mem_nil_iff, or_false] at h
    rcases h with rfl | rfl
    · exact memoFA_ok
    · exact memoFB_ok) memoFW_run
end Go.Proofs.YtfeppmhcpfccfaaGreatDoor
