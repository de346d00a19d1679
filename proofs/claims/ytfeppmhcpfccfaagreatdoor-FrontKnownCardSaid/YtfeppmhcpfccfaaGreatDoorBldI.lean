/- What the evaluator takes of strings.Builder, at this program: no other function bears those names. -/
import Derived.Test.YtfeppmhcpfccfaaGreatDoorBldW
import Derived.Test.YtfeppmhcpfccfaaGreatDoorEvH
import Derived.KernelRfl
set_option linter.unusedVariables false
set_option linter.unusedSimpArgs false
namespace Go.Proofs.YtfeppmhcpfccfaaGreatDoor
open Go Go.RowKit

/-- does each function pass, with its number? -/
def eachFrom (p : Nat → Func → Bool) : List Func → Nat → Bool
  | [], _ => true
  | f :: l, i => p i f && eachFrom p l (i + 1)
theorem eachFrom_at {p : Nat → Func → Bool} : ∀ (l : List Func) (i : Nat), eachFrom p l i = true → ∀ (j : Nat) (f : Func), l[j]? = some f → p (i + j) f = true
  | [], _, _, j, f, hj => by simp at hj
  | g :: l, i, h, j, f, hj => by
    unfold eachFrom at h
    rw [Bool.and_eq_true] at h
    cases j with
    | zero =>
      have : g = f := by simpa using hj
      subst this
      exact h.1
    | succ j =>
      have := eachFrom_at l (i + 1) h.2 j f (by simpa using hj)
      rwa [show i + 1 + j = i + (j + 1) by omega] at this
/-- of this name, of so many slots: that number alone, of a Builder -/
def onlyB (P : Program) (pt : TypeId) (m : Nat) (nm : String) (g0 : Nat) : Bool := eachFrom (fun g f => !(Nat.beq f.ntmps m && (f.name == nm)) || (Nat.beq g g0 && f.params[0]? == some pt)) P.funcs.toList 0
theorem onlyB_of {P : Program} {pt te0 : TypeId} (hu : P.underlying pt = some (.pointer te0)) {m : Nat} {nm : String} {g0 : Nat} (h : onlyB P pt m nm g0 = true) {g te : Nat} (hg : Fast.bldT P g m nm = some te) : g = g0 ∧ te = te0 := by
  unfold Fast.bldT at hg
  cases hf : P.funcs[g]? with
  | none => rw [hf] at hg; cases hg
  | some fn =>
    rw [hf] at hg
    dsimp only at hg
    cases hq : (Nat.beq fn.ntmps m && (Nat.blt g Fast.yB && fn.body.isSome) && (fn.name == nm)) with
    | false => rw [hq] at hg; cases hg
    | true =>
      rw [hq, cond_true] at hg
      simp only [Bool.and_eq_true] at hq
      have h1 := eachFrom_at _ 0 h g fn (by rw [Array.getElem?_toList]; exact hf)
      simp only [hq.1.1, hq.2, Bool.and_self, Bool.not_true, Bool.false_or, Bool.and_eq_true, Nat.zero_add, beq_iff_eq] at h1
      rw [h1.2] at hg
      dsimp only at hg
      rw [hu] at hg
      injection hg with hg
      exact ⟨Nat.eq_of_beq_eq_true h1.1, hg.symm⟩
theorem ptB : Tryz.prog.underlying 127 = some (.pointer 130) := by kernel_rfl
theorem ck_only : onlyB Tryz.prog 127 20 "(*strings.Builder).copyCheck" 144 = true := by kernel_rfl
theorem tk_only : onlyB Tryz.prog 127 14 "(*strings.Builder).String" 37 = true := by kernel_rfl
theorem byte_only : Fast.byteT Tryz.prog 130 = some 5 := by kernel_rfl
theorem bldOk : Fast.BldOk Tryz.prog where
  used := by
    intro g te hg b o w h0
    obtain ⟨rfl, rfl⟩ := onlyB_of ptB ck_only hg
    exact bld_check_used b o w h0
  fresh := by
    intro g te hg b o w c t hh hl hc0
    obtain ⟨rfl, rfl⟩ := onlyB_of ptB ck_only hg
    refine bld_check_fresh b o c.size t w ?_ ?_ (Array.getElem?_eq_some_iff.1 hc0).1 hl ?_
    · rw [Lib.cell_of_heap hh]; exact hc0
    · simp [World.shape?, hh]
    · simp [World.frozen?, hh]
  textNil := by
    intro g te hg b o w h0
    obtain ⟨rfl, rfl⟩ := onlyB_of ptB tk_only hg
    exact bld_textNil b o w h0
  text := by
    intro g te tb hg htb b o d cap w cur l h1 h2 h3 h4 h5 h6
    obtain ⟨rfl, rfl⟩ := onlyB_of ptB tk_only hg
    rw [byte_only] at htb
    injection htb with htb
    subst htb
    exact bld_text b o d cap w cur l h1 h2 h3 h4 h5 h6
end Go.Proofs.YtfeppmhcpfccfaaGreatDoor
