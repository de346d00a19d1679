/- What usufructlaw18.Schemes answers, of such arguments: the evaluator's own run, looked at by the kernel. -/
import Derived.Test.YtpndkjjkdeingaaGreatDoorEvY
import Derived.Test.YtpndkjjkdeingaaGreatDoorTabs
import Derived.Test.YtpndkjjkdeingaaGreatDoorGood
import Derived.Test.YtpndkjjkdeingaaGreatDoorBldI
import Derived.KernelRfl
import Derived.Test.YtpndkjjkdeingaaGreatDoorMemoIFM
set_option linter.unusedVariables false
set_option linter.unusedSimpArgs false
namespace Go.Proofs.YtpndkjjkdeingaaGreatDoor
open Go
set_option maxRecDepth 100000
noncomputable def memoIF : Fast.Memo := ⟨5, [.str 46 96759275064383934393091472130202221030874653101048696353281273689951790102732394230888101455213789331378692452], .tup [.one (.nilS 0 0), .row [.int .i64 (.ofNat 40), .int .i64 (.ofNat 39), .int .i64 (.ofNat 1), .int .i64 (.ofNat 40)]], []⟩
theorem memoIF_run : Fast.runM Tryz.prog tabs 2000 100000 100000 [memoIFM] memoIF [] = true := by kernel_rfl
theorem memoIF_ok : Fast.MemoOk Tryz.prog tabs memoIF := Fast.tellsM good bldOk (by kernel_rfl) (by kernel_rfl) (fun e h => by
    simp only [List.mem_cons, List.mem_nil_iff, or_false] at h
    subst h
    exact memoIFM_ok) memoIF_run
end Go.Proofs.YtpndkjjkdeingaaGreatDoor
