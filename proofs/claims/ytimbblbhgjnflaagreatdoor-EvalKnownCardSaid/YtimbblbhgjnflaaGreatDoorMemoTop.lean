/- What usufructlaw25.EvalKnown answers, of such arguments: the evaluator's own run, looked at by the kernel. -/
import Derived.Test.YtimbblbhgjnflaaGreatDoorEvY
import Derived.Test.YtimbblbhgjnflaaGreatDoorTabs
import Derived.Test.YtimbblbhgjnflaaGreatDoorGood
import Derived.Test.YtimbblbhgjnflaaGreatDoorBldI
import Derived.KernelRfl
import Derived.Test.YtimbblbhgjnflaaGreatDoorMemoA
import Derived.Test.YtimbblbhgjnflaaGreatDoorMemoB
import Derived.Test.YtimbblbhgjnflaaGreatDoorMemoC
import Derived.Test.YtimbblbhgjnflaaGreatDoorMemoD
import Derived.Test.YtimbblbhgjnflaaGreatDoorMemoE
import Derived.Test.YtimbblbhgjnflaaGreatDoorMemoF
namespace Go.Proofs.YtimbblbhgjnflaaGreatDoor
open Go
set_option maxRecDepth 100000
noncomputable def memoTop : Fast.Memo := ⟨3, [], .one (.one (.bool true)), []⟩
theorem memoTop_run : Fast.runM Tryz.prog tabs 2000 100000 100000 [memoA, memoB, memoC, memoD, memoE, memoF] memoTop [] = true := by kernel_rfl
theorem memoTop_ok : Fast.MemoOk Tryz.prog tabs memoTop := Fast.tellsM good bldOk (by kernel_rfl) (by kernel_rfl) (fun e h => by
    simp only [List.mem_cons, List.mem_nil_iff, or_false] at h
    rcases h with rfl | rfl | rfl | rfl | rfl | rfl
    · exact memoA_ok
    · exact memoB_ok
    · exact memoC_ok
    · exact memoD_ok
    · exact memoE_ok
    · exact memoF_ok) memoTop_run
end Go.Proofs.YtimbblbhgjnflaaGreatDoor
