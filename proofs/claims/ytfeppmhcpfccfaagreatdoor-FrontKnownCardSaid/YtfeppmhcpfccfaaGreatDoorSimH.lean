/- A verified evaluator, part E: operations over values that name no block. Of no program. -/
import Derived.Test.YtfeppmhcpfccfaaGreatDoorSimD
import Derived.Laws.AppendOwn
import Derived.Laws.Tables
import Derived.Lib.AppendStr
set_option linter.unusedVariables false
set_option linter.unusedSimpArgs false
namespace Go.Proofs.YtfeppmhcpfccfaaGreatDoor.Sim
open Go Go.RowKit

theorem leafFree_eq {ρ : Ren} {v v' : Value} (h : leafFree v = true) (hv : VR ρ v v') : v' = v := by
  cases hv with
  | func fn hp hf hfe hc hce =>
    simp only [leafFree, Bool.and_eq_true, Array.isEmpty_iff] at h
    obtain ⟨⟨_, rfl⟩, rfl⟩ := h
    rw [Array.eq_empty_of_size_eq_zero hf.symm, Array.eq_empty_of_size_eq_zero hc.symm]
  | _ => first | rfl | cases h
theorem all_eq {ρ : Ren} {c c' : Array Value} (h : c.all leafFree = true) (hc : AR ρ c c') : c' = c := by
  refine Array.ext hc.1.symm fun j h1 h2 => ?_
  exact leafFree_eq (Array.all_eq_true.1 h j h2) (hc.2 j h2 h1)
theorem freeD_eq {ρ : Ren} : ∀ (m : Nat) {v v' : Value}, freeD m v = true → VR ρ v v' → v' = v
  | 0, _, _, h, hv => leafFree_eq h hv
  | m + 1, v, v', h, hv => by
    cases v with
    | agg c => cases hv with
      | agg h1 h2 => rw [Array.ext h1.symm fun j i1 i2 => freeD_eq m (Array.all_eq_true.1 h j i2) (h2 j i2 i1)]
    | tuple c => cases hv with
      | tuple h1 h2 => rw [Array.ext h1.symm fun j i1 i2 => freeD_eq m (Array.all_eq_true.1 h j i2) (h2 j i2 i1)]
    | iface t v => cases hv with | iface t hv => rw [freeD_eq m h hv]
    | _ => exact leafFree_eq h hv
theorem free_eq {ρ : Ren} {v v' : Value} (h : free v = true) (hv : VR ρ v v') : v' = v := freeD_eq 4 h hv

/-- the value of an operand -/
def ev (t : Array Value) (x : Operand) : Value := Act.eval ⟨t, []⟩ x
def okX : Operand → Bool
  | .tmp _ => true
  | .const v => free v
  | .global _ => true
  | .func _ => true
/-- only these variables are named -/
def glX (gl : Nat → Bool) : Operand → Bool
  | .global g => gl g
  | _ => true
def GlR (gl : Nat → Bool) (ρ : Ren) : Prop := ∀ g, gl g = true → ∃ i, ρ g = some i ∧ i.g = g ∧ i.sh = 0
theorem glo_rel {gl : Nat → Bool} {ρ : Ren} (hG : GlR gl ρ) {g : Nat} (h : gl g = true) : VR ρ (.pointer (some ⟨g, 0, none⟩)) (.pointer (some ⟨g, 0, none⟩)) := by
  obtain ⟨i, h1, h2, h3⟩ := hG g h
  have := VR.ptr (o := 0) h1
  rw [h2, h3] at this
  exact this
theorem ev_rel {ρ : Ren} {t t' : Array Value} (h : AR ρ t t') {gl : Nat → Bool} (hG : GlR gl ρ) {x : Operand} (hx : okX x = true) (hg : glX gl x = true) : VR ρ (ev t x) (ev t' x) := by
  cases x with
  | tmp i =>
    show VR ρ (t.getD i undef) (t'.getD i undef)
    rcases h.get? i with ⟨h1, h2⟩ | ⟨v, v', h1, h2, h3⟩
    · rw [Array.getD_eq_getD_getElem?, Array.getD_eq_getD_getElem?, h1, h2]
      exact VR.mkTuple (AR.empty ρ)
    · rw [Array.getD_eq_getD_getElem?, Array.getD_eq_getD_getElem?, h1, h2]
      exact h3
  | const v => exact free_rel ρ hx
  | global g => exact glo_rel hG hg
  | func f => exact VR.mkFunc _ rfl (AR.empty ρ) (AR.empty ρ)
end Go.Proofs.YtfeppmhcpfccfaaGreatDoor.Sim
/- A verified evaluator, part F: the operations that give a value. Of no program. -/
namespace Go.Proofs.YtfeppmhcpfccfaaGreatDoor.Sim
open Go Go.RowKit

def evs (t : Operand → Value) (xs : Array Operand) : Array Value := (xs.toList.map t).toArray
theorem evs_eq (t : Operand → Value) (xs : Array Operand) : evs t xs = xs.map t := by
  apply Array.ext'
  simp [evs]
theorem evs_rel {ρ : Ren} {t t' : Operand → Value} {xs : Array Operand} (hx : ∀ x ∈ xs, VR ρ (t x) (t' x)) : AR ρ (evs t xs) (evs t' xs) := by
  refine AR.of? (by simp [evs]) fun j v v' h1 h2 => ?_
  simp only [evs, List.getElem?_toArray, List.getElem?_map] at h1 h2
  cases hj : xs.toList[j]? with
  | none => rw [hj] at h1; cases h1
  | some x =>
    rw [hj] at h1 h2
    injection h1 with h1; injection h2 with h2; subst h1 h2
    exact hx x (Array.mem_toList_iff.1 (List.mem_of_getElem? hj))

section
variable {P : Program} {B : Nat} {w0 : Base} {ρ : Ren}
theorem Sim.bounds {α β : Type} {R : Ren → α → β → Prop} {k : IntKind} {x y : Int} {c : BoundsCode} {s' : Sem β} : Sim P B w0 ρ (boundsPanic k x y c) s' R := Sim.void fun A => by
  unfold boundsPanic
  split
  · rfl
  · simp only [Bind.bind, Pure.pure, runA_bind, runA, runtimePanic, goPanic, bind_void]
theorem Sim.alloc (hz : Zeros P) (e : TypeId) : Sim P B w0 ρ (Instr.alloc e true (.tuple #[])) (Instr.alloc e true (.tuple #[])) VR := by
  unfold Instr.alloc
  refine Sim.bind (Sim.zeroValue hz e) ?_
  rintro ρ1 _ z hle ⟨rfl, hv⟩
  refine Sim.bind (Sim.newVar hv e) ?_
  rintro ρ2 a a' hle2 ⟨b, i, rfl, hi, _, rfl⟩
  exact Sim.pure (.ptr hi)
theorem Sim.box {v v' : Value} (hv : VR ρ v v') (e : TypeId) : Sim P B w0 ρ (Instr.box e v) (Instr.box e v') VR := by
  unfold Instr.box
  refine Sim.bind (Sim.newVar hv e) ?_
  rintro ρ2 a a' hle2 ⟨b, i, rfl, hi, _, rfl⟩
  exact Sim.pure (.ptr hi)
theorem Sim.loadAt {v v' : Value} (hv : VR ρ v v') (t : TypeId) : Sim P B w0 ρ (Instr.loadAt t v) (Instr.loadAt t v') VR := by
  unfold Instr.loadAt
  refine Sim.bind (Sim.sureAddr hv) ?_
  rintro ρ1 a a' hle ⟨b, o, i, rfl, hi, rfl⟩
  exact Sim.loadVar (hle _ _ hi) t
theorem Sim.storeAt {v v' x x' : Value} (hv : VR ρ v v') (hx : VR ρ x x') (t : TypeId) : Sim P B w0 ρ (Instr.storeAt t v x) (Instr.storeAt t v' x') (fun _ _ _ => True) := by
  unfold Instr.storeAt
  refine Sim.bind (Sim.sureAddr hv) ?_
  rintro ρ1 a a' hle ⟨b, o, i, rfl, hi, rfl⟩
  exact Sim.storeVar (hle _ _ hi) t (hx.mono hle)
/-- a field's address: of a field that takes room -/
def fieldPlaceA (a : Addr) (f : Field) : Sem Addr := do
  if (← sizeOf f.type) = 0 then stuck "" else pure (a.add f.offset)
def fieldAtA (s : TypeId) (addr : Value) (field : Nat) : Sem Value := do
  let .struct fields ← underlying s | stuck ""
  let some f := fields[field]? | stuck ""
  let a ← Instr.sureAddr addr
  pure (.pointer (some (← fieldPlaceA a f)))
theorem Sim.fieldPlace {b o : Nat} {i : Info} (hi : ρ b = some i) (f : Field) : Sim P B w0 ρ (fieldPlaceA ⟨b, o, none⟩ f) (fieldPlace ⟨i.g, o + i.sh, none⟩ f) (fun ρ' a a' => ∃ b o i, a = ⟨b, o, none⟩ ∧ ρ' b = some i ∧ a' = ⟨i.g, o + i.sh, none⟩) := by
  unfold fieldPlaceA Go.fieldPlace
  refine Sim.bind (Sim.sizeOf f.type) ?_
  rintro ρ3 _ n hle3 ⟨rfl, _⟩
  by_cases hn : n = 0
  · rw [if_pos hn]; exact Sim.stuck
  · rw [if_neg hn, if_neg hn, add_none, add_none, Nat.add_right_comm]
    exact Sim.pure ⟨_, _, _, rfl, hle3 _ _ hi, rfl⟩
theorem Sim.fieldAt {v v' : Value} (hv : VR ρ v v') (s : TypeId) (f : Nat) : Sim P B w0 ρ (fieldAtA s v f) (Instr.fieldAt s v' f) VR := by
  unfold fieldAtA Instr.fieldAt
  refine Sim.bind (Sim.underlying s) ?_
  rintro ρ1 _ d hle ⟨rfl, _⟩
  cases d <;> first
    | exact Sim.stuck
    | (rename_i fs _
       dsimp only
       cases hf : fs[f]? with
       | none => exact Sim.stuck
       | some fd =>
         refine Sim.bind (Sim.sureAddr (hv.mono hle)) ?_
         rintro ρ2 a a' hle2 ⟨b, o, i, rfl, hi, rfl⟩
         refine Sim.bind (Sim.fieldPlace (hle2 _ _ hi) fd) ?_
         rintro ρ3 a a' hle3 ⟨b, o, i, rfl, hi, rfl⟩
         exact Sim.pure (.ptr hi))
/-- where an index leads -/
def indexAtA (t : TypeId) (x index : Value) : Sem Value := do
  let (_, i) ← asIntOf index
  let (base, len, elem) ← match ← underlying t, x with
    | .array len elem, x => do pure (some (← Instr.sureAddr x), len, elem)
    | .slice elem, .slice base len _ => pure (base, len, elem)
    | _, _ => stuck ""
  match base with
  | some ⟨b, o, none⟩ => if 0 ≤ i ∧ i < len then pure (.pointer (some ((⟨b, o, none⟩ : Addr).add (i.toNat * (← sizeOf elem))))) else stuck ""
  | _ => stuck ""
def BaseR (ρ : Ren) (a a' : Option Addr) : Prop := (a = none ∧ a' = none) ∨ ∃ b o i, a = some ⟨b, o, none⟩ ∧ ρ b = some i ∧ a' = some ⟨i.g, o + i.sh, none⟩
theorem Sim.right {α β γ : Type} {R : Ren → α → β → Prop} {s : Sem α} {s1 : Sem γ} {f : γ → Sem β} {c : γ} (h1 : pureRun P s1 = some c) (h : Sim P B w0 ρ s (f c) R) : Sim P B w0 ρ s (s1 >>= f) R := by
  refine ⟨fun A w hs a A' ha => ?_, fun a ha => ?_⟩
  · obtain ⟨ρ', b, w', g1, g2⟩ := h.1 A w hs a A' ha
    exact ⟨ρ', b, w', by simp only [Bind.bind]; rw [run_bind P s1 f w w c (pureRun_sound h1 w)]; exact g1, g2⟩
  · obtain ⟨b, g1, g2⟩ := h.2 a ha
    exact ⟨b, pureRun_bind.2 ⟨c, h1, g1⟩, g2⟩
theorem run_und {t : TypeId} {d : TypeDesc} (h : P.underlying t = some d) : pureRun P (Go.underlying t) = some d := by
  simp only [Go.underlying, Go.program, Bind.bind, Sem.bind, pureRun, runA, h]
  rfl
/-- .. behind the type's look -/
def idxEnd (t : TypeId) (k : IntKind) (i : Int) (base : Option Addr) (len : Nat) (elem : TypeId) : Sem Value := do
  let tiny := len ≤ 1 && (match ← underlying t with | .array .. => true | _ => false)
  match base with
  | some a =>
    if 0 ≤ i ∧ i < len then pure (.pointer (some (a.add (i.toNat * (← sizeOf elem)))))
    else if tiny then unsupported (.noEntry "op/indexAddr.an index out of range at an array of length 0 or 1 (ledger 616)")
    else boundsPanic k i len .index
  | none => boundsPanic k i 0 .index
def idxTailA (i : Int) (base : Option Addr) (len : Nat) (elem : TypeId) : Sem Value := do
  match base with
  | some ⟨b, o, none⟩ => if 0 ≤ i ∧ i < len then pure (.pointer (some ((⟨b, o, none⟩ : Addr).add (i.toNat * (← sizeOf elem))))) else stuck ""
  | _ => stuck ""
theorem Sim.idxTail {t : TypeId} {d : TypeDesc} (hd : P.underlying t = some d) (k : IntKind) (j : Int) (y y' : Option Addr) (hy : BaseR ρ y y') (len : Nat) (e : TypeId) :
    Sim P B w0 ρ (idxTailA j y len e) (idxEnd t k j y' len e) VR := by
  unfold idxTailA idxEnd
  refine Sim.right (run_und hd) ?_
  rcases hy with ⟨rfl, rfl⟩ | ⟨b, o, i, rfl, hi, rfl⟩
  · exact Sim.stuck
  · by_cases hj : 0 ≤ j ∧ j < (len : Int)
    · simp only [hj, if_true, and_self]
      refine Sim.bind (Sim.sizeOf e) ?_
      rintro ρ3 _ n hle3 ⟨rfl, _⟩
      rw [add_none, add_none, Nat.add_right_comm]
      exact Sim.pure (.ptr (hle3 _ _ hi))
    · simp only [hj, if_false]
      exact Sim.stuck
theorem Sim.idxOver {t : TypeId} {d : TypeDesc} (hd : P.underlying t = some d) (k : IntKind) (j : Int) (b o g p : Nat) (e : TypeId) :
    Sim P B w0 ρ (idxTailA j (some ⟨b, o, none⟩) 0 e) (idxEnd t k j (some ⟨g, p, none⟩) 0 e) VR := by
  unfold idxTailA idxEnd
  refine Sim.right (run_und hd) ?_
  have hj : ¬ (0 ≤ j ∧ j < ((0 : Nat) : Int)) := by omega
  simp only [hj, if_false]
  exact Sim.stuck
theorem Sim.indexAt {v v' x x' : Value} (hv : VR ρ v v') (hx : VR ρ x x') (t : TypeId) : Sim P B w0 ρ (indexAtA t v x) (Instr.indexAt t v' x') VR := by
  unfold indexAtA Instr.indexAt
  refine Sim.bind (Sim.asIntOf hx) ?_
  rintro ρ1 ⟨k, j⟩ _ hle ⟨rfl, _, _⟩
  dsimp only
  refine Sim.bind (Sim.underlying t) ?_
  rintro ρ2 _ d hle2 ⟨rfl, hd⟩
  have hv2 := (hv.mono hle).mono hle2
  cases d with
  | array len e =>
    refine Sim.bind (Sim.sureAddr hv2) ?_
    rintro ρ3 a a' hle3 ⟨b, o, i, rfl, hi, rfl⟩
    exact Sim.idxTail hd k j _ _ (.inr ⟨b, o, i, rfl, hle3 _ _ hi, rfl⟩) len e
  | slice e =>
    cases hv2 with
    | nilSlice n c => exact Sim.idxTail hd k j _ _ (.inl ⟨rfl, rfl⟩) n e
    | slice h hc => exact Sim.idxTail hd k j _ _ (.inr ⟨_, _, _, rfl, h, rfl⟩) _ e
    | edge h hl he ho hc => exact Sim.idxOver hd k j _ _ _ _ e
    | clip h => exact Sim.stuck
    | _ => exact Sim.stuck
  | _ => exact Sim.stuck
theorem Sim.field {v v' : Value} (hv : VR ρ v v') (t : TypeId) (f : Nat) : Sim P B w0 ρ (Instr.field t v f) (Instr.field t v' f) VR := by
  unfold Instr.field
  refine Sim.bind (Sim.underlying t) ?_
  rintro ρ1 _ d hle ⟨rfl, _⟩
  cases d <;> first
    | exact Sim.stuck
    | (rename_i fs _
       dsimp only
       cases hf : fs[f]? with
       | none => exact Sim.stuck
       | some fd =>
         refine Sim.bind (Sim.asAgg (hv.mono hle)) ?_
         intro ρ2 c c' hle2 hc
         exact Sim.part hc _ _)
/-- an element of an array -/
def indexA (xType : TypeId) (x index : Value) : Sem Value := do
  let (_, i) ← asIntOf index
  match ← underlying xType, x with
  | .array len elem, .agg cs =>
    if 0 ≤ i ∧ i < len then part elem cs (i.toNat * (← sizeOf elem)) else stuck ""
  | _, _ => stuck ""
theorem Sim.index {v v' x x' : Value} (hv : VR ρ v v') (hx : VR ρ x x') (t : TypeId) : Sim P B w0 ρ (indexA t v x) (Instr.index t v' x') VR := by
  unfold indexA Instr.index
  refine Sim.bind (Sim.asIntOf hx) ?_
  rintro ρ1 ⟨k, j⟩ _ hle ⟨rfl, _, _⟩
  refine Sim.bind (Sim.underlying t) ?_
  rintro ρ2 _ d hle2 ⟨rfl, _⟩
  have hv2 := (hv.mono hle).mono hle2
  cases d with
  | array len e =>
    cases hv2 with
    | agg h1 h2 =>
      by_cases hj : 0 ≤ j ∧ j < (len : Int)
      · simp only [hj, if_true, and_self]
        refine Sim.bind (Sim.sizeOf e) ?_
        rintro ρ3 _ n hle3 ⟨rfl, _⟩
        exact Sim.part (AR.mono hle3 ⟨h1, h2⟩) _ _
      · simp only [hj, if_false]
        exact Sim.stuck
    | _ => exact Sim.stuck
  | _ => cases hv2 <;> exact Sim.stuck
theorem Sim.extract {v v' : Value} (hv : VR ρ v v') (j : Nat) : Sim P B w0 ρ (Instr.extract v j) (Instr.extract v' j) VR := by
  cases hv <;> first
    | exact Sim.stuck
    | (rename_i c c' h1 h2
       have hc : AR ρ c c' := ⟨h1, h2⟩
       unfold Instr.extract
       cases hj : c[j]? with
       | none => simp only [hj]; exact Sim.stuck
       | some x =>
         obtain ⟨x', h3, h4⟩ := hc.at hj
         simp only [hj, h3]
         exact Sim.pure h4)
theorem Sim.makeInterface {v v' : Value} (hv : VR ρ v v') (t : TypeId) : Sim P B w0 ρ (Instr.makeInterface t v) (Instr.makeInterface t v') VR := by
  unfold Instr.makeInterface
  refine Sim.bind (Sim.underlying t) ?_
  rintro ρ1 _ d hle ⟨rfl, _⟩
  cases d <;> first
    | exact Sim.stuck
    | exact Sim.pure (.iface t (hv.mono hle))
/-- whether something is nil -/
def eqlA (t : TypeId) (x y : Value) : Sem Bool := do
  match ← underlying t, x, y with
  | .pointer _, .pointer none, .pointer b => pure b.isNone
  | .pointer _, .pointer _, .pointer none => pure false
  | .slice _, .slice none _ _, .slice b _ _ => pure b.isNone
  | .slice _, .slice _ _ _, .slice none _ _ => pure false
  | .map _ _, .map none, .map b => pure b.isNone
  | .map _ _, .map _, .map none => pure false
  | .func _ _ _, .nilFunc, .nilFunc => pure true
  | .func _ _ _, .nilFunc, .func _ _ _ | .func _ _ _, .func _ _ _, .nilFunc => pure false
  | .interface _, .nilIface, .iface _ _ | .interface _, .iface _ _, .nilIface => pure false
  | _, _, _ => stuck ""
theorem Sim.eql {v v' x x' : Value} (hv : VR ρ v v') (hx : VR ρ x x') (t : TypeId) : Sim P B w0 ρ (eqlA t v x) (Op.equal t v' x') (fun _ b b' => b' = b) := by
  show Sim P B w0 ρ (eqlA t v x) (Op.equalIn (9999 + 1) t v' x') _
  unfold eqlA Op.equalIn
  refine Sim.bind (Sim.underlying t) ?_
  rintro ρ1 _ d hle ⟨rfl, _⟩
  have hv2 := hv.mono hle
  have hx2 := hx.mono hle
  clear hv hx
  cases d <;> cases hv2 <;> first
    | exact Sim.stuck
    | (cases hx2 <;> first | exact Sim.stuck | exact Sim.pure rfl)
end
end Go.Proofs.YtfeppmhcpfccfaaGreatDoor.Sim
/- A verified evaluator, part G: append; literals. Of no program. -/
namespace Go.Proofs.YtfeppmhcpfccfaaGreatDoor.Sim
open Go Go.RowKit

/-- lists of values that are one -/
def LR (ρ : Ren) (l l' : List Value) : Prop := l.length = l'.length ∧ ∀ (j : Nat) (v v' : Value), l[j]? = some v → l'[j]? = some v' → VR ρ v v'
theorem LR.nil (ρ : Ren) : LR ρ [] [] := ⟨rfl, fun j v v' h => by simp at h⟩
theorem LR.cons {ρ : Ren} {v v' : Value} {l l' : List Value} (h : VR ρ v v') (hl : LR ρ l l') : LR ρ (v :: l) (v' :: l') :=
  ⟨by simp [hl.1], fun j x x' h1 h2 => by
    cases j with
    | zero => simp at h1 h2; subst h1 h2; exact h
    | succ j => exact hl.2 j x x' (by simpa using h1) (by simpa using h2)⟩
theorem LR.mono {ρ ρ' : Ren} (hle : ρ.le ρ') {l l' : List Value} (h : LR ρ l l') : LR ρ' l l' := ⟨h.1, fun j v v' h1 h2 => (h.2 j v v' h1 h2).mono hle⟩
theorem LR.append {ρ : Ren} {l l' m m' : List Value} (h : LR ρ l l') (h' : LR ρ m m') : LR ρ (l ++ m) (l' ++ m') := by
  refine ⟨by simp [h.1, h'.1], fun j v v' h1 h2 => ?_⟩
  rw [List.getElem?_append] at h1 h2
  rw [← h.1] at h2
  split at h1
  · rename_i hj; rw [if_pos hj] at h2; exact h.2 j v v' h1 h2
  · rename_i hj; rw [if_neg hj] at h2; exact h'.2 _ v v' h1 h2
theorem LR.take {ρ : Ren} {l l' : List Value} (h : LR ρ l l') (k : Nat) : LR ρ (l.take k) (l'.take k) :=
  ⟨by simp [h.1], fun j v v' h1 h2 => by
    rw [List.getElem?_take] at h1 h2
    split at h1
    · rename_i hj; rw [if_pos hj] at h2; exact h.2 j v v' h1 h2
    · cases h1⟩
theorem LR.drop {ρ : Ren} {l l' : List Value} (h : LR ρ l l') (k : Nat) : LR ρ (l.drop k) (l'.drop k) :=
  ⟨by simp [h.1], fun j v v' h1 h2 => by rw [List.getElem?_drop] at h1 h2; exact h.2 _ v v' h1 h2⟩
theorem AR.toLR {ρ : Ren} {c c' : Array Value} (h : AR ρ c c') : LR ρ c.toList c'.toList := h.list
theorem LR.toAR {ρ : Ren} {l l' : List Value} (h : LR ρ l l') : AR ρ l.toArray l'.toArray :=
  AR.of? (by simpa using h.1) fun j v v' h1 h2 => h.2 j v v' (by simpa using h1) (by simpa using h2)
theorem LR.at {ρ : Ren} {l l' : List Value} (h : LR ρ l l') {j : Nat} {v : Value} (hv : l[j]? = some v) : ∃ v', l'[j]? = some v' ∧ VR ρ v v' := by
  have hj : j < l.length := (List.getElem?_eq_some_iff.1 hv).1
  exact ⟨_, List.getElem?_eq_getElem (h.1 ▸ hj), h.2 j _ _ hv (List.getElem?_eq_getElem (h.1 ▸ hj))⟩

/-- the first k of a list -/
def takeA : Nat → List Value → Option (List Value)
  | 0, _ => some []
  | _ + 1, [] => none
  | k + 1, v :: l => match takeA k l with
    | some r => some (v :: r)
    | none => none
def dropA : Nat → List Value → List Value
  | 0, l => l
  | _ + 1, [] => []
  | k + 1, _ :: l => dropA k l
theorem takeA_spec : ∀ (k : Nat) (l r : List Value), takeA k l = some r → r.length = k ∧ ∀ (j : Nat) (v : Value), r[j]? = some v → l[j]? = some v
  | 0, l, r, h => by
    simp only [takeA] at h
    injection h with h; subst h
    exact ⟨rfl, fun j v hv => by simp at hv⟩
  | k + 1, [], r, h => by cases h
  | k + 1, v :: l, r, h => by
    simp only [takeA] at h
    cases ht : takeA k l with
    | none => rw [ht] at h; cases h
    | some q =>
      rw [ht] at h
      injection h with h; subst h
      obtain ⟨h1, h2⟩ := takeA_spec k l q ht
      refine ⟨by simp [h1], fun j x hx => ?_⟩
      cases j with
      | zero => simpa using hx
      | succ j => simpa using h2 j x (by simpa using hx)
theorem dropA_spec : ∀ (k : Nat) (l : List Value) (j : Nat), (dropA k l)[j]? = l[k + j]?
  | 0, l, j => by simp [dropA]
  | k + 1, [], j => by simp [dropA]
  | k + 1, _ :: l, j => by
    rw [dropA, dropA_spec k l j, show k + 1 + j = (k + j) + 1 by omega]
    simp
/-- cells, one behind the other -/
def cellsA (A : AW) (b o k : Nat) : Option (List Value) := match A.heap.get b with
  | some ⟨.cells c _ _, _, _⟩ => takeA k (dropA o c.toList)
  | _ => none
def oneB : Value → Bool
  | .agg _ => false
  | .tuple _ => false
  | _ => true
theorem oneB_rel {ρ : Ren} {v v' : Value} (h : VR ρ v v') (hv : oneB v = true) : v'.oneCell' = true := by
  cases h <;> first | rfl | cases hv

section
variable {P : Program} {B : Nat} {w0 : Base} {ρ : Ren} {A : AW} {w : World}
theorem cellsA_at {b o k : Nat} {l : List Value} (h : cellsA A b o k = some l) : l.length = k ∧ ∀ (j : Nat) (v : Value), l[j]? = some v → A.cell? ⟨b, o + j, none⟩ = some v := by
  unfold cellsA at h
  split at h
  · rename_i c e f fam ro hb
    obtain ⟨h1, h2⟩ := takeA_spec _ _ _ h
    refine ⟨h1, fun j v hv => ?_⟩
    have := h2 j v hv
    rw [dropA_spec, Array.getElem?_toList] at this
    simp only [AW.cell?, hb, Option.isSome_none, cond_false]
    exact this
  · cases h
theorem cellsA_len (k o : Nat) (l : List Value) (b : Nat) (h : cellsA A b o k = some l) : l.length = k := (cellsA_at h).1
theorem SR.cellsL (h : SR P B w0 ρ A w) {b : Nat} {i : Info} (hi : ρ b = some i) : ∀ (l : List Value) (o : Nat), (∀ (j : Nat) (v : Value), l[j]? = some v → A.cell? ⟨b, o + j, none⟩ = some v) →
    ∃ l', LR ρ l l' ∧ ∀ (j : Nat) (u : Value), l'[j]? = some u → w.cell? ⟨i.g, o + i.sh + j, none⟩ = some u
  | [], o, _ => ⟨[], LR.nil ρ, fun j u hu => by simp at hu⟩
  | v :: l, o, hl => by
    have h0 := hl 0 v rfl
    rw [Nat.add_zero] at h0
    obtain ⟨v', h1, h2⟩ := h.cell hi h0
    obtain ⟨l', h3, h4⟩ := SR.cellsL h hi l (o + 1) (fun j u hu => by
      have := hl (j + 1) u (by simpa using hu)
      rw [show o + (j + 1) = o + 1 + j by omega] at this
      exact this)
    refine ⟨v' :: l', LR.cons h2 h3, fun j u hu => ?_⟩
    cases j with
    | zero => simp at hu; subst hu; exact h1
    | succ j =>
      have := h4 j u (by simpa using hu)
      rw [show o + i.sh + (j + 1) = o + 1 + i.sh + j by omega]
      exact this
theorem SR.cells (h : SR P B w0 ρ A w) {b : Nat} {i : Info} (hi : ρ b = some i) (k o : Nat) (l : List Value) (hl : cellsA A b o k = some l) :
    ∃ l', LR ρ l l' ∧ ∀ (j : Nat) (u : Value), l'[j]? = some u → w.cell? ⟨i.g, o + i.sh + j, none⟩ = some u := h.cellsL hi l o (cellsA_at hl).2
/-- a grown block, behind so many cells that nobody names -/
theorem SR.grownAt (h : SR P B w0 ρ A w) (hroom : A.room = true) {e : TypeId} {ti : TypeInfo} (hti : P.info? e = some ti) {pre l l' rest : List Value} (hl : LR ρ l l') (csz : Nat) (hcs : (pre ++ l' ++ rest).toArray.size = csz)
    {g : Nat} {w' : World} (hos : w'.os = w.os) (htp : w'.tape = w.tape) (hout : w'.output = w.output) (hsz : w.heap.size ≤ w'.heap.size) (hB : B ≤ g)
    (hg : w'.heap[g]? = some (.cells (pre ++ l' ++ rest).toArray e (0, 0))) (hk : ∀ k, k ≠ g → k < w.heap.size → w'.heap[k]? = w.heap[k]?)
    (hap : ∀ b y j, A.heap.get b = some y → ρ b = some j → j.g ≠ g) (hmk : ∀ r, r ∈ w0.mks → r ≠ g) (hu : pre.length = 0 ∨ byteE P e = false) :
    SR P B w0 (ρ.more A.next ⟨g, true, false, ti.size, csz, pre.length⟩) (A.add ⟨.cells l.toArray e (0, 0), true, false⟩) w' := by
  have hle := Ren.le_more (i := ⟨g, true, false, ti.size, csz, pre.length⟩) h.fresh
  refine h.new hroom hos htp hout hsz hB hg hk hap hmk (.loose rfl rfl hcs.symm ?_ ?_ (fun _ => rfl) ⟨ti, hti, rfl⟩ hu)
  · have := hl.1
    simp only [List.size_toArray, List.length_append]
    omega
  · intro j v hv
    have hv2 : l[j]? = some v := by simpa using hv
    obtain ⟨v', h1, h2⟩ := hl.at hv2
    have hj : j < l'.length := (List.getElem?_eq_some_iff.1 h1).1
    refine ⟨v', ?_, h2.mono hle⟩
    show (pre ++ l' ++ rest).toArray[j + pre.length]? = _
    rw [List.getElem?_toArray, List.append_assoc, List.getElem?_append_right (by omega), Nat.add_sub_cancel, List.getElem?_append_left hj]
    exact h1
/-- a grown block -/
theorem SR.grown (h : SR P B w0 ρ A w) (hroom : A.room = true) {e : TypeId} {ti : TypeInfo} (hti : P.info? e = some ti) {l l' rest : List Value} (hl : LR ρ l l') (cap : Nat) (hcs : (l'.toArray ++ rest.toArray).size = cap * ti.size)
    {g : Nat} {w' : World} (hos : w'.os = w.os) (htp : w'.tape = w.tape) (hout : w'.output = w.output) (hsz : w.heap.size ≤ w'.heap.size) (hB : B ≤ g)
    (hg : w'.heap[g]? = some (.cells (l'.toArray ++ rest.toArray) e (0, 0))) (hk : ∀ k, k ≠ g → k < w.heap.size → w'.heap[k]? = w.heap[k]?)
    (hap : ∀ b y j, A.heap.get b = some y → ρ b = some j → j.g ≠ g) (hmk : ∀ r, r ∈ w0.mks → r ≠ g) :
    SR P B w0 (ρ.more A.next ⟨g, true, false, ti.size, cap * ti.size, 0⟩) (A.add ⟨.cells l.toArray e (0, 0), true, false⟩) w' := by
  have e1 : l'.toArray ++ rest.toArray = ([] ++ l' ++ rest).toArray := by simp
  rw [e1] at hcs hg
  exact h.grownAt hroom hti (pre := []) hl _ hcs hos htp hout hsz hB hg hk hap hmk (.inl rfl)
end
end Go.Proofs.YtfeppmhcpfccfaaGreatDoor.Sim
/- A verified evaluator, part H: append. Of no program. -/
namespace Go.Proofs.YtfeppmhcpfccfaaGreatDoor.Sim
open Go Go.RowKit

/-- a row that is grown into a block of its own -/
def growA (A : AW) (e : TypeId) (l : List Value) (n : Nat) : Option (Value × AW) :=
  bif A.room then some (.slice (some ⟨A.next, 0, none⟩) n n, A.add ⟨.cells l.toArray e (0, 0), true, false⟩) else none
/-- what a slice grows by m elements to -/
def appendB (sf : Bool) (e : TypeId) (i : TypeInfo) (s : Value) (m : Nat) (news : List Value) (A : AW) : Option (Value × AW) :=
  match s with
  | .slice none n c => bif Nat.beq n 0 && Nat.beq c 0 then growA A e news m else none
  | .slice (some ⟨b, o, none⟩) n c =>
    match A.heap.get b with
    | some ⟨.cells c0 e' (0, 0), fam, false⟩ =>
      bif Nat.beq e' e then
        bif Nat.ble (n + m) c then
          bif Nat.beq o 0 && Nat.ble ((n + m) * i.size) c0.size then
            some (.slice (some ⟨b, 0, none⟩) (n + m) c, A.put b (some ⟨.cells (c0.toList.take (n * i.size) ++ news ++ c0.toList.drop (n * i.size + news.length)).toArray e (0, 0), fam, false⟩))
          else none
        else match cellsA A b o (n * i.size) with
          | some olds => bif fam then (bif Nat.beq o 0 || sf then growA (A.put b none) e (olds ++ news) (n + m) else none) else growA A e (olds ++ news) (n + m)
          | none => none
      else none
    | _ => none
  | .slice (some ⟨b, o, some 0⟩) n _ => match cellsA A b o (n * i.size) with
    | some olds => growA A e (olds ++ news) (n + m)
    | none => none
  | _ => none
def appendA (P : Program) (argTypes : Array TypeId) (s x : Value) (A : AW) : Option (Value × AW) :=
  match argTypes.toList with
  | [t, u] => bif Nat.beq t u then
    match P.underlying t, s, x with
    | some (.slice e), .slice sb n c, .slice xb m _ =>
      match P.info? e with
      | some i => match i.zero with
        | some z =>
          bif Nat.beq m 0 then (bif Nat.ble n c then some (.slice sb n c, A) else none) else
          bif Nat.beq z.cells.size i.size && Nat.blt 0 i.size && Nat.ble ((n + m) * i.bytes) 1099511627776 && Nat.ble (n + m) 1099511627776 then
            match xb with
            | some ⟨b, o, none⟩ => match cellsA A b o (m * i.size) with
              | some news => bif news.all oneB then appendB (!byteE P e) e i (.slice sb n c) m news A else none
              | none => none
            | _ => none
          else none
        | none => none
      | none => none
    | _, _, _ => none
  else
    match P.underlying t, P.underlying u, s, x with
    | some (.slice e), some .string, .slice sb n c, .string q =>
      match P.info? e with
      | some i => match i.zero with
        | some z =>
          bif Nat.beq q.size 0 then (bif Nat.ble n c then some (.slice sb n c, A) else none) else
          bif Nat.beq i.size 1 && Nat.beq z.cells.size i.size && Nat.ble ((n + q.size) * i.bytes) 1099511627776 && Nat.ble (n + q.size) 1099511627776 then appendB (!byteE P e) e i (.slice sb n c) q.size (Lib.strCells q) A else none
        | none => none
      | none => none
    | some (.slice e), some (.int _), .slice none n c, .int _ q =>
      match P.info? e with
      | some i => match i.zero with
        | some z =>
          bif Nat.beq n 0 && Nat.beq c 0 && Nat.beq z.cells.size i.size && Nat.blt 0 i.size && decide (0 < q) && decide (q ≤ 512) && Nat.ble (q.toNat * i.bytes) 1099511627776 then growA A e (madeCells z.cells (q.toNat * i.size)).toList q.toNat else none
        | none => none
      | none => none
    | _, _, _, _ => none
  | _ => none
/-- what an append answers: onto nothing; where there is no room; where there is -/
structure App (P : Program) (w : World) (ap : Value → Sem Value) (e : TypeId) (ti : TypeInfo) (z : Value) (m : Nat) (l' : List Value) : Prop where
  nil : 0 < m → (m : Int) ≤ 9223372036854775807 → m * ti.bytes ≤ 281474976710656 → (ap (.slice none 0 0)).run P w = .ok (.slice (some ⟨w.heap.size, 0, none⟩) m (grownCap w m 0 e)) (w.drew.alloc (.cells (l'.toArray ++ Builtin.zeroCells z.cells (grownCap w m 0 e - m)) e))
  grow : ∀ (b : Addr) (sLen sCap : Nat) (olds : List Value), olds.length = sLen * ti.size → (∀ (j : Nat) (v : Value), olds[j]? = some v → w.cell? (b.add j) = some v) → sCap < sLen + m → ((sLen + m : Nat) : Int) ≤ 9223372036854775807 → Builtin.nextslicecap (sLen + m) sCap * ti.bytes ≤ 281474976710656 →
    (ap (.slice (some b) sLen sCap)).run P w = .ok (.slice (some ⟨w.heap.size, 0, none⟩) (sLen + m) (grownCap w (sLen + m) sCap e)) (w.drew.alloc (.cells (olds.toArray ++ l'.toArray ++ Builtin.zeroCells z.cells (grownCap w (sLen + m) sCap e - (sLen + m))) e))
  room : ∀ (g o sLen sCap : Nat) (cur : Array Value), w.heap[g]? = some (.cells cur e (0, 0)) → (∀ u ∈ l', u.oneCell' = true) → sLen + m ≤ sCap → o + sLen * ti.size + l'.length ≤ cur.size →
    (ap (.slice (some ⟨g, o, none⟩) sLen sCap)).run P w = .ok (.slice (some ⟨g, o, none⟩) (sLen + m) sCap) (w.setRow g (cur.toList.take (o + sLen * ti.size) ++ l' ++ cur.toList.drop (o + sLen * ti.size + l'.length)).toArray)
/-- where there is room, at any place of a row -/
theorem run_append_room_at {P : Program} (w : World) (t ty e : TypeId) (i : TypeInfo) (ht : P.underlying t = some (.slice e)) (hi : P.info? e = some i) (g o sLen sCap : Nat) (cur : Array Value) (hg : w.heap[g]? = some (.cells cur e (0, 0)))
    (a : Addr) (m c : Nat) (news : List Value) (hl : news.length = m * i.size) (hnews : ∀ (j : Nat) (u : Value), news[j]? = some u → w.cell? (a.add j) = some u) (h1 : ∀ u ∈ news, u.oneCell' = true) (hroom : sLen + m ≤ sCap) (hfit : o + sLen * i.size + news.length ≤ cur.size) :
    (Builtin.append_ #[t, t] ty #[.slice (some ⟨g, o, none⟩) sLen sCap, .slice (some a) m c]).run P w = .ok (.slice (some ⟨g, o, none⟩) (sLen + m) sCap) (w.setRow g (cur.toList.take (o + sLen * i.size) ++ news ++ cur.toList.drop (o + sLen * i.size + news.length)).toArray) := by
  have hf := run_firstCells_some (P := P) w i.size m a m c news hl hnews
  have hst := run_storeCells_at P g (o + sLen * i.size) e news 0 cur w hg (by simpa using hfit) h1
  simp only [Nat.add_zero] at hst
  have ha : (⟨g, o, none⟩ : Addr).add (sLen * i.size) = ⟨g, o + sLen * i.size, none⟩ := add_none _ _ _
  simp [Builtin.append_, run_underlying ht, sizeOf, typeInfo, hi, Builtin.lenOf, hroom, hf, ha, hst]
theorem run_append_room_string_at {P : Program} (w : World) (t u ty e : TypeId) (i : TypeInfo) (ht : P.underlying t = some (.slice e)) (hu : P.underlying u = some .string) (hi : P.info? e = some i) (hs1 : i.size = 1) (g o sLen sCap : Nat) (cur : Array Value) (hg : w.heap[g]? = some (.cells cur e (0, 0))) (s : ByteArray)
    (hroom : sLen + s.size ≤ sCap) (hfit : o + sLen + s.size ≤ cur.size) :
    (Builtin.append_ #[t, u] ty #[.slice (some ⟨g, o, none⟩) sLen sCap, .string s]).run P w = .ok (.slice (some ⟨g, o, none⟩) (sLen + s.size) sCap) (w.setRow g (cur.toList.take (o + sLen) ++ Lib.strCells s ++ cur.toList.drop (o + sLen + s.size)).toArray) := by
  have hf := Lib.run_firstCells_string (P := P) w 1 s
  have hst := run_storeCells_at P g (o + sLen) e (Lib.strCells s) 0 cur w hg (by simpa [Lib.strCells_length] using hfit) (Lib.strCells_oneCell s)
  simp only [Nat.add_zero, Lib.strCells_length] at hst
  have ha : (⟨g, o, none⟩ : Addr).add sLen = ⟨g, o + sLen, none⟩ := add_none _ _ _
  simp [Builtin.append_, run_underlying ht, run_underlying hu, sizeOf, typeInfo, hi, hs1, Builtin.lenOf, hroom, hf, ha, hst]
/-- so many zeros onto nothing: append(nil, make(..)...) -/
theorem run_append_make {P : Program} (w : World) (t u ty e : TypeId) (i : TypeInfo) (z : Value) {uk : IntKind} (ht : P.underlying t = some (.slice e)) (hu : P.underlying u = some (.int uk)) (hi : P.info? e = some i) (hz : i.zero = some z) (hs : z.cells.size = i.size) (hpos : 0 < i.size)
    (k : IntKind) (m : Nat) (h0 : 0 < m) (h1 : m ≤ 512) (h2 : m * i.bytes ≤ 1099511627776) :
    (Builtin.append_ #[t, u] ty #[.slice none 0 0, .int k (m : Int)]).run P w =
      .ok (.slice (some ⟨w.heap.size, 0, none⟩) m (grownCap w m 0 e)) (w.drew.alloc (.cells ((madeCells z.cells (m * i.size)).toList.toArray ++ Builtin.zeroCells z.cells (grownCap w m 0 e - m)) e)) := by
  have hn : m ≠ 0 := by omega
  have hw : IntKind.i64.wrap (m : Int) = m := by
    unfold IntKind.wrap IntKind.signed IntKind.bits
    simp
    omega
  have hneg : ¬ ((m : Int) < 0) := by omega
  have hbig : ¬ (281474976710656 < (m : Int) * (i.bytes : Int)) := by
    rw [← Int.natCast_mul]
    omega
  have h48' : ¬ (281474976710656 < Builtin.nextslicecap m 0 * i.bytes) := by rw [nextslicecap_zero h0]; omega
  have hsz : i.size ≠ 0 := by omega
  have hmc : madeCells z.cells (m * i.size) = Builtin.zeroCells z.cells m := by
    unfold madeCells Builtin.zeroCells
    rw [hs]
  have h63' : ¬ (9223372036854775807 < (m : Int)) := by omega
  simp [Builtin.append_, run_underlying ht, run_underlying hu, sizeOf, typeInfo, zeroValue, hi, hz, asInt, asIntOf, hw, hneg, hbig, hn, h63', h48', hsz, Question.forced, run_firstCells_none, newRow, grownCap, hmc]
  intro h
  exact absurd h (Nat.mul_ne_zero hn hsz)
theorem App.slice {P : Program} {w : World} {t ty e : TypeId} {ti : TypeInfo} {z : Value} (ht : P.underlying t = some (.slice e)) (hti : P.info? e = some ti) (hz0 : ti.zero = some z)
    {m xc : Nat} {a : Addr} {l' : List Value} (hlen' : l'.length = m * ti.size) (hnews : ∀ (j : Nat) (u : Value), l'[j]? = some u → w.cell? (a.add j) = some u) :
    App P w (fun s => Builtin.append_ #[t, t] ty #[s, .slice (some a) m xc]) e ti z m l' :=
  ⟨fun h1 h2 h3 => run_append_nil (P := P) w t ty e ti z ht hti hz0 a m xc l' hlen' hnews h1 h2 h3,
    fun b n c olds h1 h2 h3 h4 h5 => run_append_grow (P := P) w t ty e ti z ht hti hz0 b n c olds h1 h2 a m xc l' hlen' hnews h3 h4 h5,
    fun g o n c cur h1 h2 h3 h4 => run_append_room_at (P := P) w t ty e ti ht hti g o n c cur h1 a m xc l' hlen' hnews h2 h3 h4⟩
theorem App.str {P : Program} {w : World} {t u ty e : TypeId} {ti : TypeInfo} {z : Value} (ht : P.underlying t = some (.slice e)) (hu : P.underlying u = some .string) (hti : P.info? e = some ti) (hz0 : ti.zero = some z) (h1 : ti.size = 1) (s : ByteArray) :
    App P w (fun v => Builtin.append_ #[t, u] ty #[v, .string s]) e ti z s.size (Lib.strCells s) :=
  ⟨fun a1 a2 a3 => by
      have h := run_append_nil_string (P := P) w t u ty e ti z ht hu hti hz0 s a1 a2 a3
      have e1 : (s.data.map fun b => Value.int .u8 b.toNat) = (Lib.strCells s).toArray := by
        apply Array.ext'
        simp [Lib.strCells]
      rw [e1] at h
      exact h,
    fun b n c olds h1 h2 h3 h4 h5 => Lib.run_append_grow_string (P := P) w t u ty e ti z ht hu hti hz0 b n c olds h1 h2 s h3 h4 h5,
    fun g o n c cur a1 a2 a3 a4 => by
      rw [Lib.strCells_length, h1, Nat.mul_one] at a4
      have h := run_append_room_string_at (P := P) w t u ty e ti ht hu hti h1 g o n c cur a1 s a3 a4
      rw [Lib.strCells_length, h1, Nat.mul_one]
      exact h⟩

section
variable {P : Program} {B : Nat} {w0 : Base} {ρ : Ren} {A : AW} {w : World}
theorem SR.old (h : SR P B w0 ρ A w) {b : Nat} {y : ABk} {j : Info} (hb : A.heap.get b = some y) (hj : ρ b = some j) : j.g < w.heap.size := by
  obtain ⟨_, oj, hoj, _⟩ := h.blk b y j hb hj
  exact (Array.getElem?_eq_some_iff.1 hoj).1
/-- .. at the heap's end -/
theorem SR.growEnd (h : SR P B w0 ρ A w) {e : TypeId} {ti : TypeInfo} (hti : P.info? e = some ti) {z : Value} (hz : z.cells.size = ti.size) (hpos : 0 < ti.size) {l l' : List Value} (hl : LR ρ l l') {n : Nat} (hn : l.length = n * ti.size) {cap : Nat} (hcap : n ≤ cap)
    {v : Value} {A' : AW} (hg : growA A e l n = some (v, A')) :
    ∃ ρ' v', ρ.le ρ' ∧ SR P B w0 ρ' A' (w.drew.alloc (.cells (l'.toArray ++ Builtin.zeroCells z.cells (cap - n)) e)) ∧ v' = .slice (some ⟨w.heap.size, 0, none⟩) n cap ∧ VR ρ' v v' := by
  unfold growA at hg
  cases hr : A.room with
  | false => rw [hr] at hg; cases hg
  | true =>
    rw [hr, cond_true] at hg
    injection hg with hg; injection hg with h1 h2; subst h1 h2
    have hs : (l'.toArray ++ Builtin.zeroCells z.cells (cap - n)).size = cap * ti.size := by
      rw [Array.size_append, List.size_toArray, size_zeroCells, hz, ← hl.1, hn, ← Nat.add_mul]
      congr 1; omega
    have hz2 : Builtin.zeroCells z.cells (cap - n) = (Builtin.zeroCells z.cells (cap - n)).toList.toArray := by simp
    have hgr := h.grown (g := w.heap.size) (w' := w.drew.alloc (.cells (l'.toArray ++ Builtin.zeroCells z.cells (cap - n)) e)) hr hti hl (rest := (Builtin.zeroCells z.cells (cap - n)).toList) cap (by rw [← hz2]; exact hs) rfl rfl rfl (by simp) (Nat.le_trans h.low h.below.size)
      (by rw [← hz2]; exact heap_alloc_new w.drew _) (fun k hk hlt => heap_alloc_old w.drew _ k hlt) (fun b y j hb hj => Nat.ne_of_lt (h.old hb hj)) h.mkNew
    exact ⟨_, _, Ren.le_more h.fresh, hgr, rfl, .slice (i := ⟨w.heap.size, true, false, ti.size, cap * ti.size, 0⟩) (Ren.more_self _ _ _) (.inr ⟨rfl, hcap, by simp, hpos, .inl rfl⟩)⟩
theorem add0 (a : Addr) : a.add 0 = a := by unfold Addr.add; rw [if_pos rfl]
theorem appendB_sound (h : SR P B w0 ρ A w) {e : TypeId} {ti : TypeInfo} {z : Value} {ap : Value → Sem Value} (hti : P.info? e = some ti) (hz : z.cells.size = ti.size) (hpos : 0 < ti.size)
    {s s' : Value} (hs : VR ρ s s') {n c : Nat} {sb : Option Addr} (hsv : s = .slice sb n c) {m : Nat} {l l' : List Value} (hap : App P w ap e ti z m l') (hl : LR ρ l l') (hlen : l.length = m * ti.size) (hone : l.all oneB = true) (hm : m ≠ 0)
    (hb1 : (n + m) * ti.bytes ≤ 1099511627776) (hb2 : n + m ≤ 1099511627776)
    {v : Value} {A' : AW} (ha : appendB (!byteE P e) e ti s m l A = some (v, A')) :
    ∃ ρ' v' w', (ap s').run P w = .ok v' w' ∧ ρ.le ρ' ∧ SR P B w0 ρ' A' w' ∧ VR ρ' v v' := by
  subst hsv
  have hlen' : l'.length = m * ti.size := by rw [← hl.1]; exact hlen
  have hone' : ∀ u ∈ l', u.oneCell' = true := by
    intro u hu
    obtain ⟨j, hj, rfl⟩ := List.getElem_of_mem hu
    have hjl : j < l.length := by rw [hl.1]; exact hj
    exact oneB_rel (hl.2 j _ _ (List.getElem?_eq_getElem hjl) (List.getElem?_eq_getElem hj)) (List.all_eq_true.1 hone _ (List.getElem_mem hjl))
  cases hs with
  | nilSlice n c =>
    simp only [appendB] at ha
    cases hc : Nat.beq n 0 && Nat.beq c 0 with
    | false => rw [hc] at ha; cases ha
    | true =>
      rw [hc, cond_true] at ha
      rw [Bool.and_eq_true] at hc
      have hn : n = 0 := Tr.beq_iff.1 hc.1
      have hc0 : c = 0 := Tr.beq_iff.1 hc.2
      subst hn hc0
      have hr := hap.nil (by omega) (by omega) (by have := hb1; rw [Nat.zero_add] at this; omega)
      obtain ⟨ρ', v', h1, h2, h3, h4⟩ := h.growEnd hti hz hpos hl hlen (grownCap_ge w m 0 e) ha
      exact ⟨ρ', v', _, by rw [h3]; exact hr, h1, h2, h4⟩
  | @edge b o p i hi hl1 he1 ho1 hc1 =>
    simp only [appendB] at ha
    cases hb : A.heap.get b with
    | none => rw [hb] at ha; cases ha
    | some y =>
      rw [hb] at ha
      split at ha
      rotate_left
      · cases ha
      rename_i c0 e' fam heq
      injection heq with heq
      subst heq
      obtain ⟨hB, o', hg, hor⟩ := h.blk b _ i hb hi
      cases he : Nat.beq e' e with
      | false => rw [he] at ha; cases ha
      | true =>
        rw [he, cond_true] at ha
        have hfit : Nat.ble (0 + m) 0 = false := by
          cases hq : Nat.ble (0 + m) 0 with
          | false => rfl
          | true => have := Nat.le_of_ble_eq_true hq; omega
        rw [hfit, cond_false] at ha
        split at ha
        · cases fam with
          | true =>
            rw [cond_true] at ha
            rename_i olds hol
            cases hsf : Nat.beq o 0 || !byteE P e with
            | false => rw [hsf] at ha; cases ha
            | true =>
            rw [hsf, cond_true] at ha
            cases hor with
            | loose r1 r2 r3 r4 r5 r6 r7 r8 =>
              have hk := h.kill hi
              rw [Nat.zero_mul] at hol
              have hol0 : olds = [] := List.eq_nil_of_length_eq_zero (cellsA_len _ _ _ _ hol)
              subst hol0
              have hr := hap.grow ⟨i.g, p, none⟩ 0 0 [] (by simp) (fun j u hu => by simp at hu) (by omega) (by omega) (growslice_fits (by omega) (by omega))
              obtain ⟨ρ', v', h1, h2, h3, h4⟩ := hk.growEnd hti hz hpos (l := [] ++ l) (l' := [] ++ l') hl (by rw [List.nil_append, hlen, Nat.zero_add]) (grownCap_ge w (0 + m) 0 e) ha
              refine ⟨ρ', v', _, ?_, h1, h2, h4⟩
              rw [h3, hr]
              simp
          | false => cases hor with | exact _ h2 _ _ => rw [hl1] at h2; cases h2
        · cases ha
  | @clip b o n i hi =>
    simp only [appendB] at ha
    cases hol : cellsA A b o (n * ti.size) with
    | none => rw [hol] at ha; cases ha
    | some olds =>
      rw [hol] at ha
      dsimp only at ha
      obtain ⟨olds', ho1, ho2⟩ := h.cells hi _ _ _ hol
      have holn : olds.length = n * ti.size := cellsA_len _ _ _ _ hol
      have holn' : olds'.length = n * ti.size := by rw [← ho1.1]; exact holn
      have ho3 : ∀ (j : Nat) (u : Value), olds'[j]? = some u → w.cell? ((⟨i.g, o + i.sh, none⟩ : Addr).add j) = some u := fun j u hu => by rw [add_none]; exact ho2 j u hu
      have happ : LR ρ (olds ++ l) (olds' ++ l') := ho1.append hl
      have happn : (olds ++ l).length = (n + m) * ti.size := by rw [List.length_append, holn, hlen, ← Nat.add_mul]
      have hlt : n < n + m := by omega
      have hr := hap.grow ⟨i.g, o + i.sh, none⟩ n n olds' holn' ho3 hlt (by omega) (growslice_fits hlt (by omega))
      obtain ⟨ρ', v', h1, h2, h3, h4⟩ := h.growEnd hti hz hpos happ happn (grownCap_ge w (n + m) n e) ha
      refine ⟨ρ', v', _, ?_, h1, h2, h4⟩
      rw [h3, hr]
      simp
  | @slice b o n c c' i hi hc =>
    simp only [appendB] at ha
    cases hb : A.heap.get b with
    | none => rw [hb] at ha; cases ha
    | some y =>
      rw [hb] at ha
      split at ha
      rotate_left
      · cases ha
      rename_i c0 e' fam heq
      injection heq with heq
      subst heq
      obtain ⟨hB, o', hg, hor⟩ := h.blk b _ i hb hi
      have hgl : i.g < w.heap.size := (Array.getElem?_eq_some_iff.1 hg).1
      cases he : Nat.beq e' e with
      | false => rw [he] at ha; cases ha
      | true =>
        rw [he, cond_true] at ha
        have he' : e' = e := Tr.beq_iff.1 he
        subst he'
        have hro : i.ro = false := by cases hor <;> assumption
        have hB' : B ≤ i.g := by
          rcases hB with hB | hB
          · rw [hro] at hB; cases hB
          · exact hB
        -- the block's cells
        obtain ⟨c1, ho', hle, hrel⟩ : ∃ c1, o' = .cells c1 e' (0, 0) ∧ c0.size + i.sh ≤ c1.size ∧ ∀ (j : Nat) (v : Value), c0[j]? = some v → ∃ v', c1[j + i.sh]? = some v' ∧ VR ρ v v' := by
          cases hor with
          | exact h1 h2 h3 h4 h5 => subst h4; rw [h5]; exact ⟨_, rfl, by rw [h3.1]; exact Nat.le_refl _, fun j v hv => h3.at hv⟩
          | loose h1 h2 h3 h4 h5 h6 h7 h8 => obtain rfl := h6 rfl; exact ⟨_, rfl, h4, h5⟩
        subst ho'
        cases hfit : Nat.ble (n + m) c with
        | true =>
          rw [hfit, cond_true] at ha
          have hfit' : n + m ≤ c := Nat.le_of_ble_eq_true hfit
          cases hq : Nat.beq o 0 && Nat.ble ((n + m) * ti.size) c0.size with
          | false => rw [hq] at ha; cases ha
          | true =>
            rw [hq, cond_true] at ha
            rw [Bool.and_eq_true] at hq
            have ho0 : o = 0 := Tr.beq_iff.1 hq.1
            subst ho0
            have hroom : (n + m) * ti.size ≤ c0.size := Nat.le_of_ble_eq_true hq.2
            injection ha with ha; injection ha with h1 h2; subst h1 h2
            have hcc : c ≤ c' := by rcases hc with ⟨_, h1⟩ | ⟨_, h1, _⟩ <;> omega
            have hadd : n * ti.size + l'.length = (n + m) * ti.size := by rw [hlen', ← Nat.add_mul]
            have hr := hap.room i.g (0 + i.sh) n c' c1 hg hone' (by omega) (by omega)
            refine ⟨ρ, _, _, hr, Ren.le_refl _, ?_, .slice hi hc⟩
            have ll := hl.1
            have hs1 : (c0.toList.take (n * ti.size) ++ l ++ c0.toList.drop (n * ti.size + l.length)).toArray.size = c0.size := by
              simp only [List.size_toArray, List.length_append, List.length_take, List.length_drop, Array.length_toList]
              omega
            have hs2 : (c1.toList.take (0 + i.sh + n * ti.size) ++ l' ++ c1.toList.drop (0 + i.sh + n * ti.size + l'.length)).toArray.size = c1.size := by
              simp only [List.size_toArray, List.length_append, List.length_take, List.length_drop, Array.length_toList]
              omega
            have hpt : ∀ (j : Nat) (v : Value), (c0.toList.take (n * ti.size) ++ l ++ c0.toList.drop (n * ti.size + l.length)).toArray[j]? = some v → ∃ v', (c1.toList.take (0 + i.sh + n * ti.size) ++ l' ++ c1.toList.drop (0 + i.sh + n * ti.size + l'.length)).toArray[j + i.sh]? = some v' ∧ VR ρ v v' := by
              intro j v hv
              simp only [List.getElem?_toArray] at hv ⊢
              have t0 : (c0.toList.take (n * ti.size)).length = n * ti.size := by rw [List.length_take, Array.length_toList]; omega
              have t1 : (c1.toList.take (0 + i.sh + n * ti.size)).length = 0 + i.sh + n * ti.size := by rw [List.length_take, Array.length_toList]; omega
              rw [List.getElem?_append, List.length_append, t0] at hv
              rw [List.getElem?_append, List.length_append, t1]
              split at hv
              · rename_i hj1
                rw [if_pos (by omega)]
                rw [List.getElem?_append, t0] at hv
                rw [List.getElem?_append, t1]
                split at hv
                · rename_i hj2
                  rw [if_pos (by omega), List.getElem?_take, if_pos (by omega), Array.getElem?_toList]
                  rw [List.getElem?_take, if_pos hj2, Array.getElem?_toList] at hv
                  exact hrel j v hv
                · rename_i hj2
                  rw [if_neg (by omega), show j + i.sh - (0 + i.sh + n * ti.size) = j - n * ti.size by omega]
                  exact hl.at hv
              · rename_i hj1
                rw [if_neg (by omega)]
                rw [List.getElem?_drop, Array.getElem?_toList] at hv ⊢
                have := hrel _ v hv
                rw [show 0 + i.sh + n * ti.size + l'.length + (j + i.sh - (0 + i.sh + n * ti.size + l'.length)) = n * ti.size + l.length + (j - (n * ti.size + l.length)) + i.sh by omega]
                exact this
            have hor' : OR P ρ i ⟨.cells (c0.toList.take (n * ti.size) ++ l ++ c0.toList.drop (n * ti.size + l.length)).toArray e' (0, 0), fam, false⟩ (.cells (c1.toList.take (0 + i.sh + n * ti.size) ++ l' ++ c1.toList.drop (0 + i.sh + n * ti.size + l'.length)).toArray e' (0, 0)) := by
              cases hor with
              | exact h1 h2 h3 h4 h5 =>
                refine .exact h1 h2 ⟨by rw [hs1, hs2]; exact h3.1, fun j hj hj' => ?_⟩ rfl h5
                obtain ⟨v', hv1, hv2⟩ := hpt j _ (Array.getElem?_eq_getElem hj)
                rw [show j + i.sh = j by rw [h5]; rfl, Array.getElem?_eq_getElem hj'] at hv1
                injection hv1 with hv1
                rw [hv1]; exact hv2
              | loose h1 h2 h3 h4 h5 h6 h7 h8 => exact .loose h1 h2 (by rw [hs2]; exact h3) (by rw [hs1, hs2]; exact h4) hpt (fun _ => rfl) h7 h8
            exact h.change hb hi hro hor' rfl rfl rfl (by simp) (setRow_heap w i.g c1 _ e' _ hg) (fun k hk => setRow_other w i.g k _ hk)
        | false =>
          rw [hfit, cond_false] at ha
          have hfit' : ¬ n + m ≤ c := fun hh => by rw [Nat.ble_eq_true_of_le hh] at hfit; cases hfit
          cases hol : cellsA A b o (n * ti.size) with
          | none => rw [hol] at ha; cases ha
          | some olds =>
            rw [hol] at ha
            dsimp only at ha
            obtain ⟨olds', ho1, ho2⟩ := h.cells hi _ _ _ hol
            have holn : olds.length = n * ti.size := cellsA_len _ _ _ _ hol
            have holn' : olds'.length = n * ti.size := by rw [← ho1.1]; exact holn
            have ho3 : ∀ (j : Nat) (u : Value), olds'[j]? = some u → w.cell? ((⟨i.g, o + i.sh, none⟩ : Addr).add j) = some u := fun j u hu => by rw [add_none]; exact ho2 j u hu
            have happ : LR ρ (olds ++ l) (olds' ++ l') := ho1.append hl
            have happn : (olds ++ l).length = (n + m) * ti.size := by rw [List.length_append, holn, hlen, ← Nat.add_mul]
            have grow : ∀ (c2 : Nat), c2 < n + m → (ap (.slice (some ⟨i.g, o + i.sh, none⟩) n c2)).run P w =
                .ok (.slice (some ⟨w.heap.size, 0, none⟩) (n + m) (grownCap w (n + m) c2 e')) (w.drew.alloc (.cells ((olds' ++ l').toArray ++ Builtin.zeroCells z.cells (grownCap w (n + m) c2 e' - (n + m))) e')) := by
              intro c2 h2
              have := hap.grow ⟨i.g, o + i.sh, none⟩ n c2 olds' holn' ho3 h2 (by omega) (growslice_fits h2 (by omega))
              rw [this]
              simp
            cases fam with
            | false =>
              rw [cond_false] at ha
              have hc' : c' = c := by
                rcases hc with ⟨_, h1⟩ | ⟨h1, _⟩
                · exact h1
                · cases hor with | exact _ h2 _ _ _ => rw [h1] at h2; cases h2
              obtain ⟨ρ', v', h1, h2, h3, h4⟩ := h.growEnd hti hz hpos happ happn (grownCap_ge w (n + m) c' e') ha
              exact ⟨ρ', v', _, by rw [h3]; exact grow c' (by omega), h1, h2, h4⟩
            | true =>
              rw [cond_true] at ha
              cases hsf : Nat.beq o 0 || !byteE P e' with
              | false => rw [hsf] at ha; cases ha
              | true =>
              rw [hsf, cond_true] at ha
              have hk := h.kill hi
              by_cases hin : n + m ≤ c'
              · -- in place
                cases hor with
                | loose h1 h2 h3 h4 h5 h6 h7 h8 =>
                  obtain ⟨ti2, hti2, hes⟩ := h7
                  rw [hti] at hti2; injection hti2 with hti2; subst hti2
                  have hcap : o + i.sh + c' * i.esz = i.csz := by
                    rcases hc with ⟨h8, _⟩ | ⟨_, _, h8, _⟩
                    · rw [h8] at h2; cases h2
                    · exact h8
                  rw [← hes] at hcap
                  have hmul : (n + m) * ti.size ≤ c' * ti.size := Nat.mul_le_mul_right _ hin
                  have hadd : n * ti.size + l'.length = (n + m) * ti.size := by rw [hlen', ← Nat.add_mul]
                  have hr := hap.room i.g (o + i.sh) n c' c1 hg hone' hin (by omega)
                  have htk : (c1.toList.drop (o + i.sh)).take (n * ti.size) = olds' := by
                    apply List.ext_getElem?
                    intro j
                    rw [List.getElem?_take, List.getElem?_drop, Array.getElem?_toList]
                    split
                    · rename_i hj
                      have hjl : j < olds'.length := by omega
                      have := ho2 j _ (List.getElem?_eq_getElem hjl)
                      simp only [World.cell?, hg] at this
                      rw [List.getElem?_eq_getElem hjl]
                      simpa using this
                    · rw [List.getElem?_eq_none (by omega)]
                  have htk2 : c1.toList.take (o + i.sh + n * ti.size) = c1.toList.take (o + i.sh) ++ olds' := by
                    rw [← htk]
                    exact List.take_add
                  rw [htk2] at hr
                  unfold growA at ha
                  cases hroom : (A.put b none).room with
                  | false => rw [hroom] at ha; cases ha
                  | true =>
                    rw [hroom, cond_true] at ha
                    injection ha with ha; injection ha with e1 e2; subst e1 e2
                    have hpl : (c1.toList.take (o + i.sh)).length = o + i.sh := by rw [List.length_take, Array.length_toList]; omega
                    have hassoc : (c1.toList.take (o + i.sh) ++ olds' ++ l' ++ c1.toList.drop (o + i.sh + n * ti.size + l'.length)).toArray = (c1.toList.take (o + i.sh) ++ (olds' ++ l') ++ c1.toList.drop (o + i.sh + n * ti.size + l'.length)).toArray := by
                      rw [List.append_assoc (c1.toList.take (o + i.sh)) olds' l']
                    rw [hassoc] at hr
                    have hsz : (c1.toList.take (o + i.sh) ++ (olds' ++ l') ++ c1.toList.drop (o + i.sh + n * ti.size + l'.length)).toArray.size = i.csz := by
                      simp only [List.size_toArray, List.length_append, hpl, List.length_drop, Array.length_toList]
                      omega
                    have hgr := hk.grownAt (g := i.g) (w' := w.setRow i.g (c1.toList.take (o + i.sh) ++ (olds' ++ l') ++ c1.toList.drop (o + i.sh + n * ti.size + l'.length)).toArray) hroom hti happ i.csz hsz rfl rfl rfl (by simp) hB'
                      (by rw [setRow_heap w i.g c1 _ e' _ hg]) (fun k hk' _ => setRow_other w i.g k _ hk')
                      (fun d y j hd hj he => by
                        rw [put_get h.room (h.dom b i hi)] at hd
                        split at hd
                        · cases hd
                        · rename_i hdb
                          exact hdb (h.apart d b y _ j i hd hb hj hi he))
                      (fun r hr => Ne.symm ((h.marks.2 r hr).2.2 b _ i hb hi))
                      (by
                        rw [hpl]
                        rw [Bool.or_eq_true, Bool.not_eq_true'] at hsf
                        rcases hsf with hsf | hsf
                        · have := Tr.beq_iff.1 hsf
                          rcases h8 with h8 | h8
                          · exact .inl (by omega)
                          · exact .inr h8
                        · exact .inr hsf)
                    rw [hpl] at hgr
                    refine ⟨_, _, _, hr, Ren.le_more h.fresh, hgr, ?_⟩
                    have hvr := VR.slice (ρ := ρ.more A.next ⟨i.g, true, false, ti.size, i.csz, o + i.sh⟩) (b := A.next) (o := 0) (n := n + m) (c := n + m) (c' := c') (Ren.more_self _ _ _) (.inr ⟨rfl, hin, by show 0 + (o + i.sh) + c' * ti.size = i.csz; omega, hpos, .inl rfl⟩)
                    rw [show 0 + (o + i.sh) = o + i.sh by omega] at hvr
                    exact hvr
              · obtain ⟨ρ', v', h1, h2, h3, h4⟩ := hk.growEnd hti hz hpos happ happn (grownCap_ge w (n + m) c' e') ha
                exact ⟨ρ', v', _, by rw [h3]; exact grow c' (by omega), h1, h2, h4⟩
end
end Go.Proofs.YtfeppmhcpfccfaaGreatDoor.Sim
