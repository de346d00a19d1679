/- What usufructlaw18.Schemes answers, of such arguments: the evaluator's own run, looked at by the kernel. -/
import Derived.Test.YtpndkjjkdeingaaGreatDoorEvY
import Derived.Test.YtpndkjjkdeingaaGreatDoorTabs
import Derived.Test.YtpndkjjkdeingaaGreatDoorGood
import Derived.Test.YtpndkjjkdeingaaGreatDoorBldI
import Derived.KernelRfl
import Derived.Test.YtpndkjjkdeingaaGreatDoorMemoIDM
set_option linter.unusedVariables false
set_option linter.unusedSimpArgs false
namespace Go.Proofs.YtpndkjjkdeingaaGreatDoor
open Go
set_option maxRecDepth 100000
noncomputable def memoID : Fast.Memo := ⟨5, [.str 26 167323439148884078189323873121585811091445549491118492496455020], .tup [.one (.slc 0 0 1 1), .row [.int .i64 (.ofNat 0), .int .i64 (.ofNat 0), .int .i64 (.ofNat 0), .int .i64 (.ofNat 0)]], [⟨9, 1, 1, true, [.str 35 367485212794574445111684686936773391592855460367559502567138032022146080934692940102]⟩]⟩
theorem memoID_run : Fast.runM Tryz.prog tabs 2000 100000 100000 [memoIDM] memoID [4082] = true := by kernel_rfl
theorem memoID_ok : Fast.MemoOk Tryz.prog tabs memoID := Fast.tellsM good bldOk (by kernel_rfl) (by kernel_rfl) (fun e h => by
    simp only [List.mem_cons, List.mem_nil_iff, or_false] at h
    subst h
    exact memoIDM_ok) memoID_run
end Go.Proofs.YtpndkjjkdeingaaGreatDoor
