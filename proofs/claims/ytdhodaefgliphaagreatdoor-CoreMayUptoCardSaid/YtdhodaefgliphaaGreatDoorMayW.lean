/- What usufructlaw14.works answers, of such arguments: the evaluator's own run, looked at by the kernel. -/
import Derived.Test.YtdhodaefgliphaaGreatDoorEvY
import Derived.Test.YtdhodaefgliphaaGreatDoorBldI
import Derived.KernelRfl
import Derived.Test.YtdhodaefgliphaaGreatDoorRefF
import Derived.Test.YtdhodaefgliphaaGreatDoorRefK
import Derived.Test.YtdhodaefgliphaaGreatDoorMaySz
set_option linter.unusedVariables false
set_option linter.unusedSimpArgs false
namespace Go.Proofs.YtdhodaefgliphaaGreatDoor
open Go
set_option maxRecDepth 100000
noncomputable def memoW : Fast.Memo := ⟨5, [], .one (.one (.bool true)), []⟩
theorem memoW_run : Fast.runM Tryz.prog tabs 2000 100000 100000 [] memoW [] = true := by kernel_rfl
theorem memoW_ok : Fast.MemoOk Tryz.prog tabs memoW := Fast.tellsM good bldOk (by kernel_rfl) (by kernel_rfl) (fun e h => by cases h) memoW_run
end Go.Proofs.YtdhodaefgliphaaGreatDoor
namespace Go.Proofs.YtdhodaefgliphaaGreatDoor
open Go.RowKit
theorem stand_below {T : List Fast.TabE} {w W : World} (h : Fast.StandT T w) (hb : Below w.heap.size w W) : Fast.StandT T W := by
 intro t ht
 obtain ⟨e, f, h1⟩ := h t ht
 exact ⟨e, f, (hb.block t.g (Array.getElem?_eq_some_iff.1 h1).1).trans h1⟩
def LIn (w : World) (a b c d : Value) (wb W : World) : Prop :=
 (W.cell? ⟨w.heap.size, 0, none⟩ = some a ∧ W.cell? ⟨w.heap.size, 1, none⟩ = some b ∧ W.cell? ⟨w.heap.size, 2, none⟩ = some c ∧ W.cell? ⟨w.heap.size, 3, none⟩ = some d) ∧ Below wb.heap.size wb W
theorem lin_next {w wb W W' : World} {a b c d : Value} (hw : w.heap.size < wb.heap.size) (h : LIn w a b c d wb W) (hb : Below W.heap.size W W') : LIn w a b c d wb W' := by
 have hs := h.2.size
 have hl : w.heap.size < W.heap.size := by omega
 exact ⟨⟨(hb.cell (p := ⟨w.heap.size, 0, none⟩) hl).trans h.1.1, (hb.cell (p := ⟨w.heap.size, 1, none⟩) hl).trans h.1.2.1, (hb.cell (p := ⟨w.heap.size, 2, none⟩) hl).trans h.1.2.2.1, (hb.cell (p := ⟨w.heap.size, 3, none⟩) hl).trans h.1.2.2.2⟩, h.2.trans (hb.mono hs)⟩
set_option maxRecDepth 100000 in
set_option maxHeartbeats 2000000 in
theorem coreMay_walk (p : Prog) (us : List Value) (w : World) (hsm : p.Small) (hT : Fast.StandT tabs w) (hus : Rds w w.heap.size us p.d) :
  Calls Tryz.prog 3 #[.agg us.toArray] w fun e w' => e = .returned (.bool true) ∧ Below w.heap.size w w' := by
 have HG := Lib.hid (fun (W : World) (hW : Below w.heap.size w W) => lgreat_any p us W hsm ((hus.keep hW).mono hW.size))
 have HA := Lib.hid (fun (W : World) (hW : Below w.heap.size w W) => coreMay_any p us W hsm ((hus.keep hW).mono hW.size))
 have HR := Lib.hid (fun (W : World) (hW : Below w.heap.size w W) => rmay_any p us W hsm ((hus.keep hW).mono hW.size) (fun W' vs _ hv => rsig_any p.sig vs W' hsm.sig hv))
 have HW := Lib.hid (fun (W : World) (hW : Below w.heap.size w W) => memoW_ok.says (stand_below hT hW))
 obtain ⟨dv, cv, tv, rfl, -, -, -⟩ := Prog.cells hus
 obtain ⟨vars, hvars⟩ : ∃ z, p.vars = z := ⟨_, rfl⟩
 rw [hvars] at HG HA HR ⊢
 clear hus hsm hT hvars
 go_enter Tryz.func3, Tryz.ntmps3
 go_wp2_with fail
 refine (HG.out _ (by (repeat (with_reducible first | exact Below.refl _ _ | refine Below.setCell ?_ ?_ _ | refine Below.alloc ?_ ?_ _ | refine Below.drewN ?_ _ | refine Below.drew ?_)) <;> first | omega | (simp; omega) | (simp; done))).mono ?_
 rintro e wb ⟨⟨B, rfl⟩, hb⟩
 have hwb : w.heap.size < wb.heap.size := by have := hb.size; simp at this; omega
 have hbw : Below w.heap.size w wb := Below.trans (by (repeat (with_reducible first | exact Below.refl _ _ | refine Below.setCell ?_ ?_ _ | refine Below.alloc ?_ ?_ _ | refine Below.drewN ?_ _ | refine Below.drew ?_)) <;> first | omega | (simp; omega) | (simp; done)) (hb.mono (by first | omega | (simp; omega) | (simp; done)))
 have hbx := (Blk.new w w.heap.size #[dv, cv, tv, .int .i64 vars] 28 rfl).below hb (by simp)
 have x0 : wb.cell? ⟨w.heap.size, 0, none⟩ = some dv := (hbx.cell 0).trans rfl
 have x1 : wb.cell? ⟨w.heap.size, 1, none⟩ = some cv := (hbx.cell 1).trans rfl
 have x2 : wb.cell? ⟨w.heap.size, 2, none⟩ = some tv := (hbx.cell 2).trans rfl
 have x3 : wb.cell? ⟨w.heap.size, 3, none⟩ = some (.int .i64 vars) := (hbx.cell 3).trans rfl
 have HFIN := Lib.hid (fun (W : World) (hW : Below wb.heap.size wb W) => hbw.trans (hW.mono hbw.size))
 have HM1 := Lib.hid (fun (W : World) (hW : Below wb.heap.size wb W) => HA.out W (HFIN.out W hW))
 have HM2 := Lib.hid (fun (W : World) (hW : Below wb.heap.size wb W) => HR.out W (HFIN.out W hW))
 have HWK := Lib.hid (fun (W : World) (hW : Below wb.heap.size wb W) => HW.out W (HFIN.out W hW))
 clear hb hbx hbw HA HR HG HW
 cases B
 ·obtain ⟨M, hM⟩ : ∃ M, p.may = M := ⟨_, rfl⟩
  cases M
  ·rw [Prog.mayE_no hM] at HM1
   rw [hM] at HM2
   clear hM
   go_wp2_with fail
   go_region_held3 (fun w' => (w'.cell? ⟨w.heap.size, 0, none⟩ = some dv ∧ w'.cell? ⟨w.heap.size, 1, none⟩ = some cv ∧ w'.cell? ⟨w.heap.size, 2, none⟩ = some tv ∧ w'.cell? ⟨w.heap.size, 3, none⟩ = some (.int .i64 vars)) ∧ Below wb.heap.size wb w') (first | assumption | exact ⟨⟨x0, x1, x2, x3⟩, Below.refl _ _⟩ | exact ⟨⟨x0, x1, x2, x3⟩, (Below.refl _ _).drew⟩ | exact lin_next hwb ‹_ ∧ Below wb.heap.size wb _› ‹Below _ _ _›) (first | (go_at_call 6; refine (HM1.out _ (And.right ‹_ ∧ Below wb.heap.size wb _›)).mono ?_; rintro _ w5 ⟨rfl, hb5⟩) | (go_at_call 7; refine (HM2.out _ (And.right ‹_ ∧ Below wb.heap.size wb _›)).mono ?_; rintro _ w6 ⟨rfl, hb6⟩) | (go_at_call 5; refine (HWK.out _ (And.right ‹_ ∧ Below wb.heap.size wb _›)).mono ?_; rintro _ w7 ⟨rfl, hb7⟩))
   all_goals
    go_wp2
    go_ret
    exact ⟨rfl, HFIN.out _ (And.right ‹_ ∧ Below wb.heap.size wb _›)⟩
  ·rw [Prog.mayE_yes hM] at HM1
   rw [hM] at HM2
   clear hM
   go_wp2_with fail
   go_region_held3 (fun w' => (w'.cell? ⟨w.heap.size, 0, none⟩ = some dv ∧ w'.cell? ⟨w.heap.size, 1, none⟩ = some cv ∧ w'.cell? ⟨w.heap.size, 2, none⟩ = some tv ∧ w'.cell? ⟨w.heap.size, 3, none⟩ = some (.int .i64 vars)) ∧ Below wb.heap.size wb w') (first | assumption | exact ⟨⟨x0, x1, x2, x3⟩, Below.refl _ _⟩ | exact ⟨⟨x0, x1, x2, x3⟩, (Below.refl _ _).drew⟩ | exact lin_next hwb ‹_ ∧ Below wb.heap.size wb _› ‹Below _ _ _›) (first | (go_at_call 6; refine (HM1.out _ (And.right ‹_ ∧ Below wb.heap.size wb _›)).mono ?_; rintro _ w5 ⟨rfl, hb5⟩) | (go_at_call 7; refine (HM2.out _ (And.right ‹_ ∧ Below wb.heap.size wb _›)).mono ?_; rintro _ w6 ⟨rfl, hb6⟩) | (go_at_call 5; refine (HWK.out _ (And.right ‹_ ∧ Below wb.heap.size wb _›)).mono ?_; rintro _ w7 ⟨rfl, hb7⟩))
   all_goals
    go_wp2
    go_ret
    exact ⟨rfl, HFIN.out _ (And.right ‹_ ∧ Below wb.heap.size wb _›)⟩
 ·go_wp2_with fail
  refine (HWK.out _ (Below.refl _ _)).mono ?_
  rintro e w3 ⟨rfl, hb3⟩
  have hb4 := HFIN.out _ hb3
  clear hb3
  go_wp2
  go_ret
  exact ⟨rfl, hb4⟩
end Go.Proofs.YtdhodaefgliphaaGreatDoor
