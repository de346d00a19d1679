/- A verified evaluator, part F: the operations that give a value. Of no program. -/
import Derived.Test.YthnmadbfebjpkaaGreatDoorSimE
namespace Go.Proofs.YthnmadbfebjpkaaGreatDoor.Sim
open Go Go.RowKit

def evs (t : Operand → Value) (xs : Array Operand) : Array Value := (xs.toList.map t).toArray
theorem evs_eq (t : Operand → Value) (xs : Array Operand) : evs t xs = xs.map t := by
  apply Array.ext'
  simp [evs]
theorem evs_rel {ρ : Ren} {t t' : Operand → Value} {xs : Array Operand} (hx : ∀ x ∈ xs, VR ρ (t x) (t' x)) : AR ρ (evs t xs) (evs t' xs) := by
  refine AR.of? (by simp [evs]) fun j v v' h1 h2 => ?_
  simp only [evs, List.getElem?_toArray, List.getElem?_map] at h1 h2
  cases hj : xs.toList[j]? with
  | none => rw [hj] at h1; cases h1
  | some x =>
    rw [hj] at h1 h2
    injection h1 with h1; injection h2 with h2; subst h1 h2
    exact hx x (Array.mem_toList_iff.1 (List.mem_of_getElem? hj))

section
variable {P : Program} {B : Nat} {w0 : Base} {ρ : Ren}
theorem Sim.bounds {α β : Type} {R : Ren → α → β → Prop} {k : IntKind} {x y : Int} {c : BoundsCode} {s' : Sem β} : Sim P B w0 ρ (boundsPanic k x y c) s' R := Sim.void fun A => by
  unfold boundsPanic
  split
  · rfl
  · simp only [Bind.bind, Pure.pure, runA_bind, runA, runtimePanic, goPanic, bind_void]
theorem Sim.alloc (hz : Zeros P) (e : TypeId) : Sim P B w0 ρ (Instr.alloc e true (.tuple #[])) (Instr.alloc e true (.tuple #[])) VR := by
  unfold Instr.alloc
  refine Sim.bind (Sim.zeroValue hz e) ?_
  rintro ρ1 _ z hle ⟨rfl, hv⟩
  refine Sim.bind (Sim.newVar hv e) ?_
  rintro ρ2 a a' hle2 ⟨b, i, rfl, hi, _, rfl⟩
  exact Sim.pure (.ptr hi)
theorem Sim.box {v v' : Value} (hv : VR ρ v v') (e : TypeId) : Sim P B w0 ρ (Instr.box e v) (Instr.box e v') VR := by
  unfold Instr.box
  refine Sim.bind (Sim.newVar hv e) ?_
  rintro ρ2 a a' hle2 ⟨b, i, rfl, hi, _, rfl⟩
  exact Sim.pure (.ptr hi)
theorem Sim.loadAt {v v' : Value} (hv : VR ρ v v') (t : TypeId) : Sim P B w0 ρ (Instr.loadAt t v) (Instr.loadAt t v') VR := by
  unfold Instr.loadAt
  refine Sim.bind (Sim.sureAddr hv) ?_
  rintro ρ1 a a' hle ⟨b, o, i, rfl, hi, rfl⟩
  exact Sim.loadVar (hle _ _ hi) t
theorem Sim.storeAt {v v' x x' : Value} (hv : VR ρ v v') (hx : VR ρ x x') (t : TypeId) : Sim P B w0 ρ (Instr.storeAt t v x) (Instr.storeAt t v' x') (fun _ _ _ => True) := by
  unfold Instr.storeAt
  refine Sim.bind (Sim.sureAddr hv) ?_
  rintro ρ1 a a' hle ⟨b, o, i, rfl, hi, rfl⟩
  exact Sim.storeVar (hle _ _ hi) t (hx.mono hle)
/-- a field's address: of a field that takes room -/
def fieldPlaceA (a : Addr) (f : Field) : Sem Addr := do
  if (← sizeOf f.type) = 0 then stuck "" else pure (a.add f.offset)
def fieldAtA (s : TypeId) (addr : Value) (field : Nat) : Sem Value := do
  let .struct fields ← underlying s | stuck ""
  let some f := fields[field]? | stuck ""
  let a ← Instr.sureAddr addr
  pure (.pointer (some (← fieldPlaceA a f)))
theorem Sim.fieldPlace {b o : Nat} {i : Info} (hi : ρ b = some i) (f : Field) : Sim P B w0 ρ (fieldPlaceA ⟨b, o, none⟩ f) (fieldPlace ⟨i.g, o, none⟩ f) (fun ρ' a a' => ∃ b o i, a = ⟨b, o, none⟩ ∧ ρ' b = some i ∧ a' = ⟨i.g, o, none⟩) := by
  unfold fieldPlaceA Go.fieldPlace
  refine Sim.bind (Sim.sizeOf f.type) ?_
  rintro ρ3 _ n hle3 ⟨rfl, _⟩
  by_cases hn : n = 0
  · rw [if_pos hn]; exact Sim.stuck
  · rw [if_neg hn, if_neg hn, add_none, add_none]
    exact Sim.pure ⟨_, _, _, rfl, hle3 _ _ hi, rfl⟩
theorem Sim.fieldAt {v v' : Value} (hv : VR ρ v v') (s : TypeId) (f : Nat) : Sim P B w0 ρ (fieldAtA s v f) (Instr.fieldAt s v' f) VR := by
  unfold fieldAtA Instr.fieldAt
  refine Sim.bind (Sim.underlying s) ?_
  rintro ρ1 _ d hle ⟨rfl, _⟩
  cases d <;> first
    | exact Sim.stuck
    | (rename_i fs _
       dsimp only
       cases hf : fs[f]? with
       | none => exact Sim.stuck
       | some fd =>
         refine Sim.bind (Sim.sureAddr (hv.mono hle)) ?_
         rintro ρ2 a a' hle2 ⟨b, o, i, rfl, hi, rfl⟩
         refine Sim.bind (Sim.fieldPlace (hle2 _ _ hi) fd) ?_
         rintro ρ3 a a' hle3 ⟨b, o, i, rfl, hi, rfl⟩
         exact Sim.pure (.ptr hi))
/-- where an index leads -/
def indexAtA (t : TypeId) (x index : Value) : Sem Value := do
  let (_, i) ← asIntOf index
  let (base, len, elem) ← match ← underlying t, x with
    | .array len elem, x => do pure (some (← Instr.sureAddr x), len, elem)
    | .slice elem, .slice base len _ => pure (base, len, elem)
    | _, _ => stuck ""
  match base with
  | some ⟨b, o, none⟩ => if 0 ≤ i ∧ i < len then pure (.pointer (some ((⟨b, o, none⟩ : Addr).add (i.toNat * (← sizeOf elem))))) else stuck ""
  | _ => stuck ""
def BaseR (ρ : Ren) (a a' : Option Addr) : Prop := (a = none ∧ a' = none) ∨ ∃ b o i, a = some ⟨b, o, none⟩ ∧ ρ b = some i ∧ a' = some ⟨i.g, o, none⟩
theorem Sim.right {α β γ : Type} {R : Ren → α → β → Prop} {s : Sem α} {s1 : Sem γ} {f : γ → Sem β} {c : γ} (h1 : pureRun P s1 = some c) (h : Sim P B w0 ρ s (f c) R) : Sim P B w0 ρ s (s1 >>= f) R := by
  refine ⟨fun A w hs a A' ha => ?_, fun a ha => ?_⟩
  · obtain ⟨ρ', b, w', g1, g2⟩ := h.1 A w hs a A' ha
    exact ⟨ρ', b, w', by simp only [Bind.bind]; rw [run_bind P s1 f w w c (pureRun_sound h1 w)]; exact g1, g2⟩
  · obtain ⟨b, g1, g2⟩ := h.2 a ha
    exact ⟨b, pureRun_bind.2 ⟨c, h1, g1⟩, g2⟩
theorem run_und {t : TypeId} {d : TypeDesc} (h : P.underlying t = some d) : pureRun P (Go.underlying t) = some d := by
  simp only [Go.underlying, Go.program, Bind.bind, Sem.bind, pureRun, runA, h]
  rfl
/-- .. behind the type's look -/
def idxEnd (t : TypeId) (k : IntKind) (i : Int) (base : Option Addr) (len : Nat) (elem : TypeId) : Sem Value := do
  let tiny := len ≤ 1 && (match ← underlying t with | .array .. => true | _ => false)
  match base with
  | some a =>
    if 0 ≤ i ∧ i < len then pure (.pointer (some (a.add (i.toNat * (← sizeOf elem)))))
    else if tiny then unsupported (.noEntry "op/indexAddr.an index out of range at an array of length 0 or 1 (ledger 616)")
    else boundsPanic k i len .index
  | none => boundsPanic k i 0 .index
def idxTailA (i : Int) (base : Option Addr) (len : Nat) (elem : TypeId) : Sem Value := do
  match base with
  | some ⟨b, o, none⟩ => if 0 ≤ i ∧ i < len then pure (.pointer (some ((⟨b, o, none⟩ : Addr).add (i.toNat * (← sizeOf elem))))) else stuck ""
  | _ => stuck ""
theorem Sim.idxTail {t : TypeId} {d : TypeDesc} (hd : P.underlying t = some d) (k : IntKind) (j : Int) (y y' : Option Addr) (hy : BaseR ρ y y') (len : Nat) (e : TypeId) :
    Sim P B w0 ρ (idxTailA j y len e) (idxEnd t k j y' len e) VR := by
  unfold idxTailA idxEnd
  refine Sim.right (run_und hd) ?_
  rcases hy with ⟨rfl, rfl⟩ | ⟨b, o, i, rfl, hi, rfl⟩
  · exact Sim.stuck
  · by_cases hj : 0 ≤ j ∧ j < (len : Int)
    · simp only [hj, if_true, and_self]
      refine Sim.bind (Sim.sizeOf e) ?_
      rintro ρ3 _ n hle3 ⟨rfl, _⟩
      rw [add_none, add_none]
      exact Sim.pure (.ptr (hle3 _ _ hi))
    · simp only [hj, if_false]
      exact Sim.stuck
theorem Sim.idxOver {t : TypeId} {d : TypeDesc} (hd : P.underlying t = some d) (k : IntKind) (j : Int) (b o g : Nat) (e : TypeId) :
    Sim P B w0 ρ (idxTailA j (some ⟨b, o, none⟩) 0 e) (idxEnd t k j (some ⟨g, 0, none⟩) 0 e) VR := by
  unfold idxTailA idxEnd
  refine Sim.right (run_und hd) ?_
  have hj : ¬ (0 ≤ j ∧ j < ((0 : Nat) : Int)) := by omega
  simp only [hj, if_false]
  exact Sim.stuck
theorem Sim.indexAt {v v' x x' : Value} (hv : VR ρ v v') (hx : VR ρ x x') (t : TypeId) : Sim P B w0 ρ (indexAtA t v x) (Instr.indexAt t v' x') VR := by
  unfold indexAtA Instr.indexAt
  refine Sim.bind (Sim.asIntOf hx) ?_
  rintro ρ1 ⟨k, j⟩ _ hle ⟨rfl, _, _⟩
  dsimp only
  refine Sim.bind (Sim.underlying t) ?_
  rintro ρ2 _ d hle2 ⟨rfl, hd⟩
  have hv2 := (hv.mono hle).mono hle2
  cases d with
  | array len e =>
    refine Sim.bind (Sim.sureAddr hv2) ?_
    rintro ρ3 a a' hle3 ⟨b, o, i, rfl, hi, rfl⟩
    exact Sim.idxTail hd k j _ _ (.inr ⟨b, o, i, rfl, hle3 _ _ hi, rfl⟩) len e
  | slice e =>
    cases hv2 with
    | nilSlice n c => exact Sim.idxTail hd k j _ _ (.inl ⟨rfl, rfl⟩) n e
    | slice h hc => exact Sim.idxTail hd k j _ _ (.inr ⟨_, _, _, rfl, h, rfl⟩) _ e
    | edge h hl he ho hc => exact Sim.idxOver hd k j _ _ _ e
    | clip h => exact Sim.stuck
    | _ => exact Sim.stuck
  | _ => exact Sim.stuck
theorem Sim.field {v v' : Value} (hv : VR ρ v v') (t : TypeId) (f : Nat) : Sim P B w0 ρ (Instr.field t v f) (Instr.field t v' f) VR := by
  unfold Instr.field
  refine Sim.bind (Sim.underlying t) ?_
  rintro ρ1 _ d hle ⟨rfl, _⟩
  cases d <;> first
    | exact Sim.stuck
    | (rename_i fs _
       dsimp only
       cases hf : fs[f]? with
       | none => exact Sim.stuck
       | some fd =>
         refine Sim.bind (Sim.asAgg (hv.mono hle)) ?_
         intro ρ2 c c' hle2 hc
         exact Sim.part hc _ _)
/-- an element of an array -/
def indexA (xType : TypeId) (x index : Value) : Sem Value := do
  let (_, i) ← asIntOf index
  match ← underlying xType, x with
  | .array len elem, .agg cs =>
    if 0 ≤ i ∧ i < len then part elem cs (i.toNat * (← sizeOf elem)) else stuck ""
  | _, _ => stuck ""
theorem Sim.index {v v' x x' : Value} (hv : VR ρ v v') (hx : VR ρ x x') (t : TypeId) : Sim P B w0 ρ (indexA t v x) (Instr.index t v' x') VR := by
  unfold indexA Instr.index
  refine Sim.bind (Sim.asIntOf hx) ?_
  rintro ρ1 ⟨k, j⟩ _ hle ⟨rfl, _, _⟩
  refine Sim.bind (Sim.underlying t) ?_
  rintro ρ2 _ d hle2 ⟨rfl, _⟩
  have hv2 := (hv.mono hle).mono hle2
  cases d with
  | array len e =>
    cases hv2 with
    | agg h1 h2 =>
      by_cases hj : 0 ≤ j ∧ j < (len : Int)
      · simp only [hj, if_true, and_self]
        refine Sim.bind (Sim.sizeOf e) ?_
        rintro ρ3 _ n hle3 ⟨rfl, _⟩
        exact Sim.part (AR.mono hle3 ⟨h1, h2⟩) _ _
      · simp only [hj, if_false]
        exact Sim.stuck
    | _ => exact Sim.stuck
  | _ => cases hv2 <;> exact Sim.stuck
theorem Sim.extract {v v' : Value} (hv : VR ρ v v') (j : Nat) : Sim P B w0 ρ (Instr.extract v j) (Instr.extract v' j) VR := by
  cases hv <;> first
    | exact Sim.stuck
    | (rename_i c c' h1 h2
       have hc : AR ρ c c' := ⟨h1, h2⟩
       unfold Instr.extract
       cases hj : c[j]? with
       | none => simp only [hj]; exact Sim.stuck
       | some x =>
         obtain ⟨x', h3, h4⟩ := hc.at hj
         simp only [hj, h3]
         exact Sim.pure h4)
theorem Sim.makeInterface {v v' : Value} (hv : VR ρ v v') (t : TypeId) : Sim P B w0 ρ (Instr.makeInterface t v) (Instr.makeInterface t v') VR := by
  unfold Instr.makeInterface
  refine Sim.bind (Sim.underlying t) ?_
  rintro ρ1 _ d hle ⟨rfl, _⟩
  cases d <;> first
    | exact Sim.stuck
    | exact Sim.pure (.iface t (hv.mono hle))
/-- whether something is nil -/
def eqlA (t : TypeId) (x y : Value) : Sem Bool := do
  match ← underlying t, x, y with
  | .pointer _, .pointer none, .pointer b => pure b.isNone
  | .pointer _, .pointer _, .pointer none => pure false
  | .slice _, .slice none _ _, .slice b _ _ => pure b.isNone
  | .slice _, .slice _ _ _, .slice none _ _ => pure false
  | .map _ _, .map none, .map b => pure b.isNone
  | .map _ _, .map _, .map none => pure false
  | .func _ _ _, .nilFunc, .nilFunc => pure true
  | .func _ _ _, .nilFunc, .func _ _ _ | .func _ _ _, .func _ _ _, .nilFunc => pure false
  | .interface _, .nilIface, .iface _ _ | .interface _, .iface _ _, .nilIface => pure false
  | _, _, _ => stuck ""
theorem Sim.eql {v v' x x' : Value} (hv : VR ρ v v') (hx : VR ρ x x') (t : TypeId) : Sim P B w0 ρ (eqlA t v x) (Op.equal t v' x') (fun _ b b' => b' = b) := by
  show Sim P B w0 ρ (eqlA t v x) (Op.equalIn (9999 + 1) t v' x') _
  unfold eqlA Op.equalIn
  refine Sim.bind (Sim.underlying t) ?_
  rintro ρ1 _ d hle ⟨rfl, _⟩
  have hv2 := hv.mono hle
  have hx2 := hx.mono hle
  clear hv hx
  cases d <;> cases hv2 <;> first
    | exact Sim.stuck
    | (cases hx2 <;> first | exact Sim.stuck | exact Sim.pure rfl)
end
end Go.Proofs.YthnmadbfebjpkaaGreatDoor.Sim
