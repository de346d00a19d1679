/- FrontKnown: the law answers true; the nine variables of Go's library that its row lists are tied to the program's text. Conditions: none beyond the card's own. -/
import Derived.Test.YtfeppmhcpfccfaaGreatDoorSdFrontKnown
set_option linter.unusedVariables false
set_option linter.unusedSimpArgs false
namespace Go.Proofs.YtfeppmhcpfccfaaGreatDoor.frontKnown
open Go Go.ChangeShapes Go.WideShapes Go.ChangeAt Go.RowKit

theorem plain (f : FuncId) (fn : Func) (hf : Tryz.pinned.checked.prog.funcNamed "usufruct/usufructlaw21.FrontKnown" = some f) (hfn : Tryz.pinned.checked.prog.funcs[f]? = some fn) :
    true = Tryz.pinned.checked.prog.looks [] ∧ ∀ (j : Nat) t, fn.params[j]? = some t → Tryz.pinned.checked.prog.wantsStandIn t = false := by
  obtain rfl : f = 4 := Option.some.inj ((show Tryz.prog.funcNamed "usufruct/usufructlaw21.FrontKnown" = some 4 by kernel_rfl).symm.trans hf) |>.symm
  obtain rfl : fn = Tryz.f4 := (Option.some.inj (Tryz.func4.symm.trans hfn)).symm
  refine ⟨by kernel_rfl, fun j t ht => ?_⟩
  rw [Tryz.params4] at ht
  exact absurd (Array.mem_of_getElem? ht) (by simp)

theorem card_w : Rows.frontKnownRow.wfByText (OpenSpec.ofChange Rows.frontKnownSpec) = true := by kernel_rfl
theorem card_m : Tryz.pinned.checked.prog.mainIs = some (Rows.frontKnownCard.stood.harness.1, Rows.frontKnownCard.stood.harness.2.toList) := by kernel_rfl
theorem goes_none {P : Program} (h : P.funcs.any Func.goes = false) (func : String) : P.goesAt .entering func = false := by
  have key : ∀ g : FuncId, (P.funcs[g]?).any Func.goes = false := by
    intro g
    cases hg : P.funcs[g]? with
    | none => rfl
    | some fn =>
      show fn.goes = false
      obtain ⟨hlt, rfl⟩ := Array.getElem?_eq_some_iff.1 hg
      have := Array.any_eq_false.1 h g hlt
      simpa using this
  unfold Program.goesAt Program.goesFrom
  rw [Bool.or_false]
  cases P.funcNamed func with
  | none => rfl
  | some f =>
    show P.goes f = false
    unfold Program.goes
    rw [h, Bool.and_false, Bool.or_false]
    cases hc : (P.closure f).any fun g => (P.funcs[g]?).any Func.goes with
    | false => rfl
    | true =>
      obtain ⟨g, _, hg⟩ := List.any_eq_true.1 hc
      rw [key g] at hg
      cases hg
theorem no_go : Tryz.prog.funcs.any Func.goes = false := by kernel_rfl
theorem card_g : false = Rows.frontKnownRow.goesBy Tryz.pinned.checked.prog := (goes_none no_go _).symm
/-- THE CARD. -/
theorem card : Rows.FrontKnownCardSaid :=
  Claim7.holds_tied_plain_at .later [] _ _ _ _ said (fun _ h => by cases h) card_w (fun _ h => by cases h) frontKnown_row_tie rfl ⟨rfl, rfl⟩ card_m rfl plain card_g
#print axioms card
end Go.Proofs.YtfeppmhcpfccfaaGreatDoor.frontKnown
