/- What usufructlaw18.Schemes answers, of such arguments: the evaluator's own run, looked at by the kernel. -/
import Derived.Test.YtpndkjjkdeingaaGreatDoorEvY
import Derived.Test.YtpndkjjkdeingaaGreatDoorTabs
import Derived.Test.YtpndkjjkdeingaaGreatDoorGood
import Derived.Test.YtpndkjjkdeingaaGreatDoorBldI
import Derived.KernelRfl
import Derived.Test.YtpndkjjkdeingaaGreatDoorMemoIGM
set_option linter.unusedVariables false
set_option linter.unusedSimpArgs false
namespace Go.Proofs.YtpndkjjkdeingaaGreatDoor
open Go
set_option maxRecDepth 100000
noncomputable def memoIG : Fast.Memo := ⟨5, [.str 48 6331147391238912805902940866486098049747757581493724264025555250764349626627141649373360233157338412054019378013548], .tup [.one (.slc 0 0 1 1), .row [.int .i64 (.ofNat 0), .int .i64 (.ofNat 0), .int .i64 (.ofNat 0), .int .i64 (.ofNat 0)]], [⟨9, 1, 1, true, [.str 12 35421919069812246917694447952]⟩]⟩
theorem memoIG_run : Fast.runM Tryz.prog tabs 2000 100000 100000 [memoIGM] memoIG [5063] = true := by kernel_rfl
theorem memoIG_ok : Fast.MemoOk Tryz.prog tabs memoIG := Fast.tellsM good bldOk (by kernel_rfl) (by kernel_rfl) (fun e h => by
    simp only [List.mem_cons, List.mem_nil_iff, or_false] at h
    subst h
    exact memoIGM_ok) memoIG_run
end Go.Proofs.YtpndkjjkdeingaaGreatDoor
