/- What usufructlaw18.InferKnown answers, of such arguments: the evaluator's own run, looked at by the kernel. -/
import Derived.Test.YtpndkjjkdeingaaGreatDoorEvY
import Derived.Test.YtpndkjjkdeingaaGreatDoorTabs
import Derived.Test.YtpndkjjkdeingaaGreatDoorGood
import Derived.Test.YtpndkjjkdeingaaGreatDoorBldI
import Derived.KernelRfl
import Derived.Test.YtpndkjjkdeingaaGreatDoorMemoIA
import Derived.Test.YtpndkjjkdeingaaGreatDoorMemoIB
import Derived.Test.YtpndkjjkdeingaaGreatDoorMemoIC
import Derived.Test.YtpndkjjkdeingaaGreatDoorMemoID
import Derived.Test.YtpndkjjkdeingaaGreatDoorMemoIE
import Derived.Test.YtpndkjjkdeingaaGreatDoorMemoIF
import Derived.Test.YtpndkjjkdeingaaGreatDoorMemoIG
import Derived.Test.YtpndkjjkdeingaaGreatDoorMemoIW
set_option linter.unusedVariables false
set_option linter.unusedSimpArgs false
namespace Go.Proofs.YtpndkjjkdeingaaGreatDoor
open Go
set_option maxRecDepth 100000
noncomputable def memoITop : Fast.Memo := ⟨3, [], .one (.one (.bool true)), []⟩
theorem memoITop_run : Fast.runM Tryz.prog tabs 2000 100000 100000 [memoIA, memoIB, memoIC, memoID, memoIE, memoIF, memoIG, memoIW] memoITop [] = true := by kernel_rfl
theorem memoITop_ok : Fast.MemoOk Tryz.prog tabs memoITop := Fast.tellsM good bldOk (by kernel_rfl) (by kernel_rfl) (fun e h => by
    simp only [List.mem_cons, List.mem_nil_iff, or_false] at h
    rcases h with rfl | rfl | rfl | rfl | rfl | rfl | rfl | rfl
    · exact memoIA_ok
    · exact memoIB_ok
    · exact memoIC_ok
    · exact memoID_ok
    · exact memoIE_ok
    · exact memoIF_ok
    · exact memoIG_ok
    · exact memoIW_ok) memoITop_run
end Go.Proofs.YtpndkjjkdeingaaGreatDoor
