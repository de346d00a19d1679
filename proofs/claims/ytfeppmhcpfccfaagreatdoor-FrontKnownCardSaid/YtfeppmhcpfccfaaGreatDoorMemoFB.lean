/- What front.Check answers, of such arguments: the evaluator's own run, looked at by the kernel. -/
import Derived.Test.YtfeppmhcpfccfaaGreatDoorEvY
import Derived.Test.YtfeppmhcpfccfaaGreatDoorTabs
import Derived.Test.YtfeppmhcpfccfaaGreatDoorGood
import Derived.Test.YtfeppmhcpfccfaaGreatDoorBldI
import Derived.KernelRfl
import Derived.Test.YtfeppmhcpfccfaaGreatDoorMemoFBP
set_option linter.unusedVariables false
set_option linter.unusedSimpArgs false
namespace Go.Proofs.YtfeppmhcpfccfaaGreatDoor
open Go
set_option maxRecDepth 100000
noncomputable def memoFB : Fast.Memo := ⟨9, [.str 33 14488571963857515264067360291839856445175697109320228315544897031421473060054380], .tup [.row [.nilS 0 0, .nilS 0 0, .nilS 0 0, .int .i64 (.ofNat 0), .nilS 0 0, .nilS 0 0], .row [.int .i64 (.ofNat 150), .int .i64 (.ofNat 10), .int .i64 (.ofNat 1), .int .i64 (.ofNat 11)]], []⟩
theorem memoFB_run : Fast.runM Tryz.prog tabs 2000 100000 100000 [memoFBP] memoFB [] = true := by kernel_rfl
theorem memoFB_ok : Fast.MemoOk Tryz.prog tabs memoFB := Fast.tellsM good bldOk (by kernel_rfl) (by kernel_rfl) (fun e h => by
    simp only [List.mem_cons, List.mem_nil_iff, or_false] at h
    subst h
    exact memoFBP_ok) memoFB_run
end Go.Proofs.YtfeppmhcpfccfaaGreatDoor
