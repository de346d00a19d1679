/- InferPrims: what is told, and the law's runs at a type that isn't known, number by number: looked at by the kernel. -/
import Derived.Test.YtpndkjjkdeingaaGreatDoorPrA
set_option linter.unusedVariables false
set_option linter.unusedSimpArgs false
namespace Go.Proofs.YtpndkjjkdeingaaGreatDoor
open Go Go.Proofs.YtpndkjjkdeingaaGreatDoor.Sim Go.Proofs.YtpndkjjkdeingaaGreatDoor.Fast
set_option maxRecDepth 100000
noncomputable section
/-- the type -/
def prRow : L1 := .row [.val (.float .f64 0), .val (.float .f64 1), .val (.float .f64 2), .val (.float .f64 3), .val (.float .f64 4)]
/-- the number -/
def prZ : FV := .val (.float .f64 7)
def prOne (f : FuncId) (l : List L1) (x : FV) : Memo := ⟨f, l, .one (.one x), []⟩
/-- what is told of a number (k: how many it takes) and of the type (j: may it be?) -/
def prMs (n : FV) (k j : Int) : List Memo := [sayM 7, prOne 25 [prRow] (.val (.float .f64 5)), prOne 8 [prRow] (.val (.float .f64 5)), prOne 22 [prRow] (.int .i64 j),
  prOne 11 [prRow] (.int .i64 j), prOne 12 [prRow, prRow] (.bool true), prOne 21 [.one n] (.int .i64 k), prOne 10 [.one n] (.int .i64 k)]
def prLaw (n : FV) : Memo := prOne 4 [.one n, prRow] (.bool true)
def prRun [Atoms] (n : FV) (k j : Int) : Bool := runM Tryz.prog tabs 2000 100000 100000 (prMs n k j) (prLaw n) []
def prTakes (i : Nat) : Int := [2, 1, 2, 1, 2, 2, 3, 1, 1, 1, 2, 2, 2, 2, 2, 2, 2, 2].getD i 0
section
variable (a b c d : Int) (sa : Option Addr) (n m : Nat) (s z : Int) (w0 : World)
theorem run_big (q t : Bool) (k j : Int) : @prRun (prAt a b c d sa n m s z w0 (prTab true q t)) prZ k j = true := by kernel_rfl
theorem run_none (q t : Bool) (j : Int) : @prRun (prAt a b c d sa n m s z w0 (prTab false q t)) prZ 0 j = true := by kernel_rfl
def prAll [Atoms] (j : Int) : Bool := (List.range 18).all fun i => prRun (.int .i64 (Int.ofNat (i + 1))) (prTakes i) j
theorem runs_arg : @prAll (prAt a b c d sa n m s z w0 (prTab false false false)) 2 = true := by kernel_rfl
theorem runs_arg2 : @prAll (prAt a b c d sa n m s z w0 (prTab false false true)) 2 = true := by kernel_rfl
theorem runs_small : @prAll (prAt a b c d sa n m s z w0 (prTab false false false)) 0 = true := by kernel_rfl
theorem runs_edge : @prAll (prAt a b c d sa n m s z w0 (prTab false false true)) 0 = true := by kernel_rfl
theorem runs_long : @prAll (prAt a b c d sa n m s z w0 (prTab false true true)) 3 = true := by kernel_rfl
end
end
end Go.Proofs.YtpndkjjkdeingaaGreatDoor
