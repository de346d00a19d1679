/- What usufructlaw18.Schemes answers, of such arguments: the evaluator's own run, looked at by the kernel. -/
import Derived.Test.YtpndkjjkdeingaaGreatDoorEvY
import Derived.Test.YtpndkjjkdeingaaGreatDoorTabs
import Derived.Test.YtpndkjjkdeingaaGreatDoorGood
import Derived.Test.YtpndkjjkdeingaaGreatDoorBldI
import Derived.KernelRfl
import Derived.Test.YtpndkjjkdeingaaGreatDoorMemoIBM
set_option linter.unusedVariables false
set_option linter.unusedSimpArgs false
namespace Go.Proofs.YtpndkjjkdeingaaGreatDoor
open Go
set_option maxRecDepth 100000
noncomputable def memoIB : Fast.Memo := ⟨5, [.str 20 685802980860640431979723373902571764653516678508], .tup [.one (.slc 0 0 1 1), .row [.int .i64 (.ofNat 0), .int .i64 (.ofNat 0), .int .i64 (.ofNat 0), .int .i64 (.ofNat 0)]], [⟨9, 1, 1, true, [.str 29 1305569742252197489704047532783222031326856976466781418472644603293793]⟩]⟩
theorem memoIB_run : Fast.runM Tryz.prog tabs 2000 100000 100000 [memoIBM] memoIB [3811] = true := by kernel_rfl
theorem memoIB_ok : Fast.MemoOk Tryz.prog tabs memoIB := Fast.tellsM good bldOk (by kernel_rfl) (by kernel_rfl) (fun e h => by
    simp only [List.mem_cons, List.mem_nil_iff, or_false] at h
    subst h
    exact memoIBM_ok) memoIB_run
end Go.Proofs.YtpndkjjkdeingaaGreatDoor
