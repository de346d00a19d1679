/- A verified evaluator, part L: loads; regions. Of no program. -/
import Derived.Test.YtnneooidkbhbeaaGreatDoorSimU
import Derived.OrdersHeld
import Derived.Laws.Cells
set_option linter.unusedVariables false
set_option linter.unusedSimpArgs false
namespace Go.Proofs.YtnneooidkbhbeaaGreatDoor.Sim
open Go Go.RowKit

/-- are two values one? -/
def eqV : Nat → Value → Value → Bool
  | 0, _, _ => false
  | n + 1, a, b => match a, b with
    | .bool x, .bool y => x == y
    | .int k x, .int k' y => decide (k = k') && decide (x = y)
    | .float k x, .float k' y => decide (k = k') && Nat.beq x y
    | .string x, .string y => decide (x.data.toList = y.data.toList)
    | .pointer x, .pointer y => decide (x = y)
    | .slice x i j, .slice y i' j' => decide (x = y) && Nat.beq i i' && Nat.beq j j'
    | .map x, .map y => decide (x = y)
    | .nilFunc, .nilFunc => true
    | .nilIface, .nilIface => true
    | .func fn f c, .func fn' f' c' => decide (fn = fn') && eqL (eqV n) f.toList f'.toList && eqL (eqV n) c.toList c'.toList
    | .iface t v, .iface t' v' => Nat.beq t t' && eqV n v v'
    | .agg c, .agg c' => eqL (eqV n) c.toList c'.toList
    | .tuple c, .tuple c' => eqL (eqV n) c.toList c'.toList
    | _, _ => false
where eqL (f : Value → Value → Bool) : List Value → List Value → Bool
  | [], [] => true
  | x :: l, y :: m => f x y && eqL f l m
  | _, _ => false
theorem eqL_eq {f : Value → Value → Bool} (hf : ∀ x y, f x y = true → x = y) : ∀ {l m : List Value}, eqV.eqL f l m = true → l = m
  | [], [], _ => rfl
  | [], _ :: _, h => by cases h
  | _ :: _, [], h => by cases h
  | x :: l, y :: m, h => by
    simp only [eqV.eqL, Bool.and_eq_true] at h
    rw [hf x y h.1, eqL_eq hf h.2]
theorem eqV_eq : ∀ (n : Nat) (a b : Value), eqV n a b = true → a = b
  | 0, _, _, h => by cases h
  | n + 1, a, b, h => by
    have ih := eqV_eq n
    cases a with
    | bool x => cases b with
      | bool y => simp only [eqV, beq_iff_eq] at h; rw [h]
      | _ => cases h
    | int k x => cases b with
      | int k' y => simp only [eqV, Bool.and_eq_true, decide_eq_true_eq] at h; rw [h.1, h.2]
      | _ => cases h
    | string x => cases b with
      | string y =>
        simp only [eqV, decide_eq_true_eq] at h
        congr 1
        exact ByteArray.ext (Array.toList_inj.1 h)
      | _ => cases h
    | pointer x => cases b with
      | pointer y => simp only [eqV, decide_eq_true_eq] at h; rw [h]
      | _ => cases h
    | slice x i j => cases b with
      | slice y i' j' =>
        simp only [eqV, Bool.and_eq_true, decide_eq_true_eq] at h
        rw [h.1.1, Tr.beq_iff.1 h.1.2, Tr.beq_iff.1 h.2]
      | _ => cases h
    | map x => cases b with
      | map y => simp only [eqV, decide_eq_true_eq] at h; rw [h]
      | _ => cases h
    | nilFunc => cases b with
      | nilFunc => rfl
      | _ => cases h
    | nilIface => cases b with
      | nilIface => rfl
      | _ => cases h
    | func fn f c => cases b with
      | func fn' f' c' =>
        simp only [eqV, Bool.and_eq_true, decide_eq_true_eq] at h
        rw [h.1.1, Array.toList_inj.1 (eqL_eq ih h.1.2), Array.toList_inj.1 (eqL_eq ih h.2)]
      | _ => cases h
    | iface t v => cases b with
      | iface t' v' =>
        simp only [eqV, Bool.and_eq_true] at h
        rw [Tr.beq_iff.1 h.1, ih v v' h.2]
      | _ => cases h
    | float k x => cases b with
      | float k' y => simp only [eqV, Bool.and_eq_true, decide_eq_true_eq] at h; rw [h.1, Tr.beq_iff.1 h.2]
      | _ => cases h
    | agg c => cases b with
      | agg c' => simp only [eqV] at h; rw [Array.toList_inj.1 (eqL_eq ih h)]
      | _ => cases h
    | tuple c => cases b with
      | tuple c' => simp only [eqV] at h; rw [Array.toList_inj.1 (eqL_eq ih h)]
      | _ => cases h
    | _ => cases b <;> cases h

theorem LR.det {ρ : Ren} {l a b : List Value} (h1 : LR ρ l a) (h2 : LR ρ l b) : a = b := by
  apply List.ext_getElem?
  intro j
  by_cases hj : j < l.length
  · obtain ⟨x, e1, e2⟩ := h1.at (List.getElem?_eq_getElem hj)
    obtain ⟨y, e3, e4⟩ := h2.at (List.getElem?_eq_getElem hj)
    rw [e1, e3, e2.det e4]
  · rw [List.getElem?_eq_none (by rw [← h1.1]; omega), List.getElem?_eq_none (by rw [← h2.1]; omega)]

abbrev Held := Nat × Nat × List Value
/-- what a load reads -/
def loadL (P : Program) (A : AW) (ty : TypeId) (x : Value) : Option (Held × Value) :=
  match x with
  | .pointer (some ⟨b, o, none⟩) =>
    match P.underlying ty with
    | some (.struct _) | some (.array _ _) => match P.info? ty with
      | some i => match cellsA A b o i.size with
        | some l => some ((b, o, l), .agg l.toArray)
        | none => none
      | none => none
    | some _ => match cellsA A b o 1 with
      | some [v] => some ((b, o, [v]), v)
      | _ => none
    | none => none
  | _ => none

section
variable {P : Program} {B : Nat} {w0 : Base} {ρ : Ren} {A : AW} {w : World} {t t' : Array Value}
theorem loadL_sound (h : SR P B w0 ρ A w) {ty : TypeId} {x x' : Value} (hx : VR ρ x x') {b o : Nat} {l : List Value} {v : Value} (hl : loadL P A ty x = some ((b, o, l), v)) :
    ∃ i l' v', ρ b = some i ∧ LR ρ l l' ∧ (∀ (j : Nat) (u : Value), l'[j]? = some u → w.cell? ⟨i.g, o + j, none⟩ = some u) ∧ VR ρ v v' ∧
      ∀ W : World, (∀ (j : Nat) (u : Value), l'[j]? = some u → W.cell? ⟨i.g, o + j, none⟩ = some u) → (Instr.loadAt ty x').run P W = .ok v' W := by
  unfold loadL at hl
  cases hx with
  | ptr hi =>
    rename_i b1 o1 i
    dsimp only at hl
    have agg : ∀ {d : TypeDesc}, P.underlying ty = some d → (∀ W, (isAgg ty).run P W = .ok true W) → (match P.info? ty with
        | some i => match cellsA A b1 o1 i.size with
          | some l => some (((b1, o1, l), Value.agg l.toArray) : Held × Value)
          | none => none
        | none => none) = some ((b, o, l), v) → ∃ i l' v', ρ b = some i ∧ LR ρ l l' ∧ (∀ (j : Nat) (u : Value), l'[j]? = some u → w.cell? ⟨i.g, o + j, none⟩ = some u) ∧ VR ρ v v' ∧
      ∀ W : World, (∀ (j : Nat) (u : Value), l'[j]? = some u → W.cell? ⟨i.g, o + j, none⟩ = some u) → (Instr.loadAt ty (.pointer (some ⟨i.g, o1, none⟩))).run P W = .ok v' W := by
      intro d hd hagg hl
      cases hti : P.info? ty with
      | none => rw [hti] at hl; cases hl
      | some ti =>
        rw [hti] at hl
        dsimp only at hl
        cases hc : cellsA A b1 o1 ti.size with
        | none => rw [hc] at hl; cases hl
        | some l2 =>
          rw [hc] at hl
          dsimp only at hl
          injection hl with hl
          injection hl with h1 h2
          injection h1 with h3 h4
          injection h4 with h5 h6
          subst h3 h5 h6 h2
          obtain ⟨l', g1, g2⟩ := h.cells hi _ _ _ hc
          have hlen : l'.length = ti.size := by rw [← g1.1]; exact cellsA_len _ _ _ _ hc
          refine ⟨i, l', _, hi, g1, g2, VR.mkAgg g1.toAR, fun W hW => ?_⟩
          have hld := run_loadCells_list (P := P) W ⟨i.g, o1, none⟩ l' (fun j u hu => by rw [add_none]; exact hW j u hu)
          rw [hlen] at hld
          simp [Instr.loadAt, Instr.sureAddr, loadVar, hagg, sizeOf, typeInfo, hti, hld]
    have one : ∀ {d : TypeDesc}, P.underlying ty = some d → (∀ W, (isAgg ty).run P W = .ok false W) → (match cellsA A b1 o1 1 with
        | some [v] => some (((b1, o1, [v]), v) : Held × Value)
        | _ => none) = some ((b, o, l), v) → ∃ i l' v', ρ b = some i ∧ LR ρ l l' ∧ (∀ (j : Nat) (u : Value), l'[j]? = some u → w.cell? ⟨i.g, o + j, none⟩ = some u) ∧ VR ρ v v' ∧
      ∀ W : World, (∀ (j : Nat) (u : Value), l'[j]? = some u → W.cell? ⟨i.g, o + j, none⟩ = some u) → (Instr.loadAt ty (.pointer (some ⟨i.g, o1, none⟩))).run P W = .ok v' W := by
      intro d hd hagg hl
      split at hl
      rotate_left
      · cases hl
      rename_i v1 hc
      injection hl with hl
      injection hl with h1 h2
      injection h1 with h3 h4
      injection h4 with h5 h6
      subst h3 h5 h6 h2
      obtain ⟨l', g1, g2⟩ := h.cells hi _ _ _ hc
      obtain ⟨v', g3, g4⟩ := g1.at (j := 0) rfl
      refine ⟨i, l', v', hi, g1, g2, g4, fun W hW => ?_⟩
      have := hW 0 v' g3
      rw [Nat.add_zero] at this
      simp [Instr.loadAt, Instr.sureAddr, loadVar, hagg, Go.load, Sem.run, this]
    cases hu : P.underlying ty with
    | none => rw [hu] at hl; cases hl
    | some d =>
      rw [hu] at hl
      have ia : ∀ (q : Bool), (match d with | .struct _ | .array _ _ => true | _ => false) = q → ∀ W, (isAgg ty).run P W = .ok q W := by
        intro q hq W
        cases d <;> simp only at hq <;> subst hq <;> simp [isAgg, run_underlying hu]
      cases d with
      | struct fs =>
        obtain ⟨i2, l', v', q1, q2, q3, q4, q5⟩ := agg hu (ia true rfl) hl
        have : i2 = i := by
          have e : b = b1 := by
            dsimp only at hl
            split at hl
            · split at hl
              · injection hl with hl; injection hl with h1 _; injection h1 with h3 _; exact h3.symm
              · cases hl
            · cases hl
          rw [e, hi] at q1; injection q1 with q1; exact q1.symm
        subst this
        exact ⟨i2, l', v', q1, q2, q3, q4, q5⟩
      | array n e =>
        obtain ⟨i2, l', v', q1, q2, q3, q4, q5⟩ := agg hu (ia true rfl) hl
        have : i2 = i := by
          have e : b = b1 := by
            dsimp only at hl
            split at hl
            · split at hl
              · injection hl with hl; injection hl with h1 _; injection h1 with h3 _; exact h3.symm
              · cases hl
            · cases hl
          rw [e, hi] at q1; injection q1 with q1; exact q1.symm
        subst this
        exact ⟨i2, l', v', q1, q2, q3, q4, q5⟩
      | _ =>
        obtain ⟨i2, l', v', q1, q2, q3, q4, q5⟩ := one hu (ia false rfl) hl
        have : i2 = i := by
          have e : b = b1 := by
            dsimp only at hl
            split at hl
            · injection hl with hl; injection hl with h1 _; injection h1 with h3 _; exact h3.symm
            · cases hl
          rw [e, hi] at q1; injection q1 with q1; exact q1.symm
        subst this
        exact ⟨i2, l', v', q1, q2, q3, q4, q5⟩
  | _ => cases hl
end
end Go.Proofs.YtnneooidkbhbeaaGreatDoor.Sim
