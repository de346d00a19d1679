/- What usufructlaw18.works answers, of such arguments: the evaluator's own run, looked at by the kernel. -/
import Derived.Test.YtpndkjjkdeingaaGreatDoorAtEvZ
import Derived.Test.YtpndkjjkdeingaaGreatDoorAtTabs
import Derived.Test.YtpndkjjkdeingaaGreatDoorAtGood
import Derived.Test.YtpndkjjkdeingaaGreatDoorAtBldI
import Derived.KernelRfl
import Derived.Test.YtpndkjjkdeingaaGreatDoorAtMemoII
set_option linter.unusedVariables false
set_option linter.unusedSimpArgs false
namespace Go.Proofs.YtpndkjjkdeingaaGreatDoor
open Go
set_option maxRecDepth 100000
noncomputable def memoIW : Fast.Memo := ⟨7, [], .one (.one (.bool true)), []⟩
theorem memoIW_run : @Fast.runM noAtoms Tryz.prog tabs 2000 100000 100000 [memoII] memoIW [] = true := by kernel_rfl
theorem memoIW_ok : @Fast.MemoOk noAtoms Tryz.prog tabs memoIW := letI := noAtoms; Fast.tellsM good bldOk (by kernel_rfl) (by kernel_rfl) (fun e h => by
    simp only [List.mem_cons, List.mem_nil_iff, or_false] at h
    subst h
    exact memoII_ok) memoIW_run
end Go.Proofs.YtpndkjjkdeingaaGreatDoor
