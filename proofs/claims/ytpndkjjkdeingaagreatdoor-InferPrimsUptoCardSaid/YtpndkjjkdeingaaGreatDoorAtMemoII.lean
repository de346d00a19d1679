/- What usufructlaw18.Schemes answers, of such arguments: the evaluator's own run, looked at by the kernel. -/
import Derived.Test.YtpndkjjkdeingaaGreatDoorAtEvZ
import Derived.Test.YtpndkjjkdeingaaGreatDoorAtTabs
import Derived.Test.YtpndkjjkdeingaaGreatDoorAtGood
import Derived.Test.YtpndkjjkdeingaaGreatDoorAtBldI
import Derived.KernelRfl
import Derived.Test.YtpndkjjkdeingaaGreatDoorAtMemoIH
set_option linter.unusedVariables false
set_option linter.unusedSimpArgs false
namespace Go.Proofs.YtpndkjjkdeingaaGreatDoor
open Go
set_option maxRecDepth 100000
noncomputable def memoII : Fast.Memo := ⟨5, [.one (.str 59 1972931352466302363979655271131073629090068090209730003951029913173181095406721825006287945628021190711791671094347014112360885830886884664684)], .tup [.one (.slc 0 0 3 3), .row [.int .i64 (.ofNat 0), .int .i64 (.ofNat 0), .int .i64 (.ofNat 0), .int .i64 (.ofNat 0)]], [⟨9, 1, 3, true, [.str 29 1332529688919350140899111934349368329055646739752407962414867839725665, .str 40 420741663221504586805644745140984755343163606200181061689634336565209038078033783078212133216552, .str 3 7630409]⟩]⟩
theorem memoII_run : @Fast.runM noAtoms Tryz.prog tabs 2000 100000 100000 [memoIH] memoII [8901] = true := by kernel_rfl
theorem memoII_ok : @Fast.MemoOk noAtoms Tryz.prog tabs memoII := letI := noAtoms; Fast.tellsM good bldOk (by kernel_rfl) (by kernel_rfl) (fun e h => by
    simp only [List.mem_cons, List.mem_nil_iff, or_false] at h
    subst h
    exact memoIH_ok) memoII_run
end Go.Proofs.YtpndkjjkdeingaaGreatDoor
