/- InferPrims (its second form): whatever the number, whatever the type, up to the bound on what is read, the law answers true, and what it was handed reads as it did; the nine variables of Go's library that its row lists are tied to the program's text. Conditions: none beyond the card's own. -/
import Derived.Test.YtpndkjjkdeingaaGreatDoorPrC
import Derived.Test.YtpndkjjkdeingaaGreatDoorPrSz
import Derived.Test.YtpndkjjkdeingaaGreatDoorAtStInferPrims
import Derived.Test.YtpndkjjkdeingaaGreatDoorPrJo
import Derived.Test.YtpndkjjkdeingaaGreatDoorCards
import Derived.Test.YtpndkjjkdeingaaGreatDoorTi
set_option linter.unusedVariables false
set_option linter.unusedSimpArgs false
namespace Go.Proofs.YtpndkjjkdeingaaGreatDoor.inferPrims
open Go Go.ChangeShapes Go.WideShapes Go.ChangeAt Go.RowKit

theorem laidOut : laidOutB Tryz.prog = true := by kernel_rfl

set_option maxRecDepth 100000 in
theorem contract (H : Type) (enc : TypeId × Value → H) (W : World) (base : Nat) (args : Array Value) (ds gs : List (DataW H)) (before : List MemPlace)
    (hval : ∀ (j : Nat) t v, Tryz.f4.params[j]? = some t → args[j]? = some v → Value.okWide Tryz.prog W .any base t v)
    (hW : DataW.Whole enc Tryz.prog Tryz.f4.params.toList Rows.inferPrimsSpec.vars false W args.toList ds gs before) (hK : Rows.uptoBulkAll (ds ++ gs) ≤ 1048576) (hL : laidMet Tryz.prog Rows.inferPrimsUptoRow.laid W) :
    Calls Tryz.prog 4 args W fun e W' => ∃ v, e = .returned v ∧ Rows.inferPrimsSpec.post enc Tryz.prog Tryz.f4 false true false false W args v W' := by
  have hW' := hW
  obtain ⟨p, q, hA0, hV, rfl, hfz, hnd⟩ := hW
  have hA : DataW.TrodAll enc Tryz.prog W 0 (fun _ => true) true Tryz.f4.params.toList args.toList ds p := hA0
  rw [Tryz.params4] at hA hval
  obtain ⟨v0, v1, d0, d1, p0, p1, rfl, rfl, rfl, h0, h1⟩ := trodAll_two hA
  obtain ⟨rfl, rfl⟩ := trodVars_none hV
  clear hA0
  simp only [List.append_nil] at hW'
  have hlt0 : ∀ x ∈ p0, x.block < W.heap.size := fun x hx => hW'.lt x (by simp [hx])
  have hlt1 : ∀ x ∈ p1, x.block < W.heap.size := fun x hx => hW'.lt x (by simp [hx])
  have hk0 : Rows.uptoBulk d0 ≤ 1048576 ∧ Rows.uptoBulk d1 ≤ 1048576 := by
    simp only [List.cons_append, List.nil_append, Rows.uptoBulkAll] at hK
    omega
  obtain ⟨z, rfl⟩ := okWide_int Tryz.underlying3 (hval 0 3 v0 (by kernel_rfl) rfl)
  obtain ⟨x, us, rfl, hsm, hus⟩ := open_type h1 hlt1 hk0.2
  refine (inferPrims_any x z us W (stand_of hL) hsm hus).mono ?_
  rintro e W' ⟨rfl, bel⟩
  refine ⟨_, rfl, _, _, _, [], p0 ++ p1, [], hW', ?_, ?_, ?_, bel.frame _, fun h => by cases h⟩
  · exact trodAll_mk1 (shut_bool Tryz.underlying4 _)
  · exact trodAll_mk2 (bel.trod laidOut (by kernel_rfl) (of_decide_eq_true (by kernel_rfl)) h0 hlt0) (bel.trod laidOut (by kernel_rfl) (of_decide_eq_true (by kernel_rfl)) h1 hlt1)
  · rfl

abbrev typeNone : Value := .agg #[.int .u8 0, .int .i64 0, .int .i64 0, .int .u8 0, .slice none 0 0]
theorem reads (os : Os) {H : Type} (enc : TypeId × Value → H) : ∃ places, DataW.whole enc Tryz.prog ((laidWorld os).forCall (fun _ _ => 0) ⟨#[], #[.int .i64 0, typeNone], []⟩).memory Tryz.f4.params.toList Rows.inferPrimsSpec.vars false #[.int .i64 0, typeNone].toList 8 = some ([.lit (.int .i64 0), .agg [.lit (.int .u8 0), .lit (.int .i64 0), .agg [.lit (.int .i64 0), .lit (.int .u8 0)], .nil]], [], places) :=
  ⟨[], by kernel_rfl⟩

set_option maxRecDepth 100000 in
theorem lifted (os : Os) (started : os.Started) (H : Type) (enc : TypeId × Value → H) (F : Stop.Interp) :
    ReturnsInHanded {} Tryz.checked os 4 .any ((Rows.OpenSpec.upto Rows.inferPrimsSpec).preRow enc Tryz.prog Tryz.f4 Rows.inferPrimsUptoRow.domain false Rows.inferPrimsUptoRow.laid) (((Rows.OpenSpec.upto Rows.inferPrimsSpec).at F).post enc Tryz.prog Tryz.f4 false true false false) := by
  obtain ⟨places, hx⟩ := reads os enc
  refine returnsInHanded_of_row (C := Tryz.checked) (s := Rows.OpenSpec.upto Rows.inferPrimsSpec) own started (by kernel_rfl) Tryz.func4
    (witness_row_atRef (enc := enc) (C := Tryz.checked) false (laidWorld os) #[.int .i64 0, typeNone] rfl (by kernel_rfl) (by kernel_rfl) (by kernel_rfl)
      (OpenSpec.preRow_of_cond 8 hx (by kernel_rfl) (fun k hk => by cases hk; kernel_rfl) (by kernel_rfl) (laid_met os _))) ?_
  intro W base args ds gs before hval hW _ hcond _ hL _ _
  exact contract H enc W base args ds gs before hval hW (of_decide_eq_true (hcond _ rfl)) hL

theorem said : Rows.InferPrimsUptoSaid :=
  OpenClaim.holds_of_cond 4 Tryz.f4 rfl rfl rfl rfl rfl rfl rfl ⟨rfl, rfl, rfl, rfl, rfl⟩ rfl rfl rfl rfl rfl named Tryz.func4 closed
    inst wrap
    (fun os started H enc _ F => by rw [OpenClaim.pre_eq_preRow]; exact lifted os started H enc F)

theorem plain (f : FuncId) (fn : Func) (hf : Tryz.pinned.checked.prog.funcNamed "usufruct/usufructlaw18.InferPrims" = some f) (hfn : Tryz.pinned.checked.prog.funcs[f]? = some fn) :
    true = Tryz.pinned.checked.prog.looks [] ∧ ∀ (j : Nat) t, fn.params[j]? = some t → Tryz.pinned.checked.prog.wantsStandIn t = false := by
  obtain rfl : f = 4 := Option.some.inj ((show Tryz.prog.funcNamed "usufruct/usufructlaw18.InferPrims" = some 4 by kernel_rfl).symm.trans hf) |>.symm
  obtain rfl : fn = Tryz.f4 := (Option.some.inj (Tryz.func4.symm.trans hfn)).symm
  refine ⟨by kernel_rfl, fun j t ht => ?_⟩
  rw [Tryz.params4] at ht
  have h : t = 3 ∨ t = 39 := by simpa using Array.mem_of_getElem? ht
  rcases h with rfl | rfl
  · exact (show Tryz.prog.wantsStandIn 3 = false by kernel_rfl)
  · exact (show Tryz.prog.wantsStandIn 39 = false by kernel_rfl)

theorem card_w : Rows.inferPrimsUptoRow.wfByText (Rows.OpenSpec.upto Rows.inferPrimsSpec) = true := by kernel_rfl
theorem card_m : Tryz.pinned.checked.prog.mainIs = some (Rows.inferPrimsUptoCard.stood.harness.1, Rows.inferPrimsUptoCard.stood.harness.2.toList) := by kernel_rfl
theorem goes_none {P : Program} (h : P.funcs.any Func.goes = false) (func : String) : P.goesAt .entering func = false := by
  have key : ∀ g : FuncId, (P.funcs[g]?).any Func.goes = false := by
    intro g
    cases hg : P.funcs[g]? with
    | none => rfl
    | some fn =>
      show fn.goes = false
      obtain ⟨hlt, rfl⟩ := Array.getElem?_eq_some_iff.1 hg
      have := Array.any_eq_false.1 h g hlt
      simpa using this
  unfold Program.goesAt Program.goesFrom
  rw [Bool.or_false]
  cases P.funcNamed func with
  | none => rfl
  | some f =>
    show P.goes f = false
    unfold Program.goes
    rw [h, Bool.and_false, Bool.or_false]
    cases hc : (P.closure f).any fun g => (P.funcs[g]?).any Func.goes with
    | false => rfl
    | true =>
      obtain ⟨g, _, hg⟩ := List.any_eq_true.1 hc
      rw [key g] at hg
      cases hg
theorem no_go : Tryz.prog.funcs.any Func.goes = false := by kernel_rfl
theorem card_g : false = Rows.inferPrimsUptoRow.goesBy Tryz.pinned.checked.prog := (goes_none no_go _).symm
/-- THE CARD. -/
theorem card : Rows.InferPrimsUptoCardSaid :=
  Claim7.holds_tied_plain_at .later [] _ _ _ _ said (fun _ h => by cases h) card_w (fun _ h => by cases h) inferPrimsUpto_row_tie rfl ⟨rfl, rfl⟩ card_m rfl plain card_g
end Go.Proofs.YtpndkjjkdeingaaGreatDoor.inferPrims
