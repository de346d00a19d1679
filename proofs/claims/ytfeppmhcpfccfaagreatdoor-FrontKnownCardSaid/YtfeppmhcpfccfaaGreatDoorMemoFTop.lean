/- What usufructlaw21.FrontKnown answers, of such arguments: the evaluator's own run, looked at by the kernel. -/
import Derived.Test.YtfeppmhcpfccfaaGreatDoorEvY
import Derived.Test.YtfeppmhcpfccfaaGreatDoorTabs
import Derived.Test.YtfeppmhcpfccfaaGreatDoorGood
import Derived.Test.YtfeppmhcpfccfaaGreatDoorBldI
import Derived.KernelRfl
import Derived.Test.YtfeppmhcpfccfaaGreatDoorMemoFW
import Derived.Test.YtfeppmhcpfccfaaGreatDoorMemoFC
import Derived.Test.YtfeppmhcpfccfaaGreatDoorMemoFD
import Derived.Test.YtfeppmhcpfccfaaGreatDoorMemoFE
set_option linter.unusedVariables false
set_option linter.unusedSimpArgs false
namespace Go.Proofs.YtfeppmhcpfccfaaGreatDoor
open Go
set_option maxRecDepth 100000
noncomputable def memoFTop : Fast.Memo := ⟨4, [], .one (.one (.bool true)), []⟩
theorem memoFTop_run : Fast.runM Tryz.prog tabs 2000 100000 100000 [memoFW, memoFC, memoFD, memoFE] memoFTop [] = true := by kernel_rfl
theorem memoFTop_ok : Fast.MemoOk Tryz.prog tabs memoFTop := Fast.tellsM good bldOk (by kernel_rfl) (by kernel_rfl) (fun e h => by
    simp only [List.mem_cons, List.mem_nil_iff, or_false] at h
    rcases h with rfl | rfl | rfl | rfl
    · exact memoFW_ok
    · exact memoFC_ok
    · exact memoFD_ok
    · exact memoFE_ok) memoFTop_run
end Go.Proofs.YtfeppmhcpfccfaaGreatDoor
