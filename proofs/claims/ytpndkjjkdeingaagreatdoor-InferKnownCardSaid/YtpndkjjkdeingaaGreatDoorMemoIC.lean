/- What usufructlaw18.Schemes answers, of such arguments: the evaluator's own run, looked at by the kernel. -/
import Derived.Test.YtpndkjjkdeingaaGreatDoorEvY
import Derived.Test.YtpndkjjkdeingaaGreatDoorTabs
import Derived.Test.YtpndkjjkdeingaaGreatDoorGood
import Derived.Test.YtpndkjjkdeingaaGreatDoorBldI
import Derived.KernelRfl
import Derived.Test.YtpndkjjkdeingaaGreatDoorMemoICM
set_option linter.unusedVariables false
set_option linter.unusedSimpArgs false
namespace Go.Proofs.YtpndkjjkdeingaaGreatDoor
open Go
set_option maxRecDepth 100000
noncomputable def memoIC : Fast.Memo := ⟨5, [.str 63 25599300006290063748451809707147140260746316612265614682110762438538109199797102441715139204183446433345729793622895838929911334427361174136858506192236], .tup [.one (.slc 0 0 1 1), .row [.int .i64 (.ofNat 0), .int .i64 (.ofNat 0), .int .i64 (.ofNat 0), .int .i64 (.ofNat 0)]], [⟨9, 1, 1, true, [.str 27 19921413303408805864020460894629854665366488989881332288751626572]⟩]⟩
theorem memoIC_run : Fast.runM Tryz.prog tabs 2000 100000 100000 [memoICM] memoIC [5677] = true := by kernel_rfl
theorem memoIC_ok : Fast.MemoOk Tryz.prog tabs memoIC := Fast.tellsM good bldOk (by kernel_rfl) (by kernel_rfl) (fun e h => by
    simp only [List.mem_cons, List.mem_nil_iff, or_false] at h
    subst h
    exact memoICM_ok) memoIC_run
end Go.Proofs.YtpndkjjkdeingaaGreatDoor
