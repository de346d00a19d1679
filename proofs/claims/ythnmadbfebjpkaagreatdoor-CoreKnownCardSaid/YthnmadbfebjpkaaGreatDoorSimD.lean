/- A verified evaluator, part D: the small operations. Of no program. -/
import Derived.Test.YthnmadbfebjpkaaGreatDoorSimC
namespace Go.Proofs.YthnmadbfebjpkaaGreatDoor.Sim
open Go Go.RowKit

/-- a value that names no block -/
def leafFree : Value → Bool
  | .bool _ | .int _ _ | .float _ _ | .complex _ _ _ | .string _ | .nilFunc | .nilIface => true
  | .pointer a => a.isNone
  | .slice a _ _ => a.isNone
  | .map r => r.isNone
  | .chan r => r.isNone
  | .func fn f c => plainFn fn && f.isEmpty && c.isEmpty
  | _ => false
def freeD : Nat → Value → Bool
  | 0, v => leafFree v
  | m + 1, v => match v with
    | .agg c => c.all (freeD m)
    | .tuple c => c.all (freeD m)
    | .iface _ u => freeD m u
    | u => leafFree u
def free (v : Value) : Bool := freeD 4 v
theorem leafFree_rel (ρ : Ren) {v : Value} (h : leafFree v = true) : VR ρ v v := by
  cases v with
  | bool => exact .bool _
  | int => exact .int _ _
  | float => exact .float _ _
  | complex => exact .complex _ _ _
  | string => exact .string _
  | nilFunc => exact .nilFunc
  | nilIface => exact .nilIface
  | pointer a => cases a with
    | none => exact .nilPtr
    | some a => cases h
  | slice a n c => cases a with
    | none => exact .nilSlice _ _
    | some a => cases h
  | map r => cases r with
    | none => exact .nilMap
    | some r => cases h
  | chan r => cases r with
    | none => exact .nilChan
    | some r => cases h
  | func fn f c =>
    simp only [leafFree, Bool.and_eq_true, Array.isEmpty_iff] at h
    obtain ⟨⟨hp, rfl⟩, rfl⟩ := h
    exact VR.mkFunc _ hp (AR.empty ρ) (AR.empty ρ)
  | iface => cases h
  | agg => cases h
  | tuple => cases h
theorem all_rel (ρ : Ren) {c : Array Value} (h : c.all leafFree = true) : AR ρ c c :=
  ⟨rfl, fun j hj _ => leafFree_rel ρ (Array.all_eq_true.1 h j hj)⟩
theorem freeD_rel (ρ : Ren) : ∀ (m : Nat) {v : Value}, freeD m v = true → VR ρ v v
  | 0, _, h => leafFree_rel ρ h
  | m + 1, v, h => by
    cases v with
    | agg c => exact VR.mkAgg ⟨rfl, fun j hj _ => freeD_rel ρ m (Array.all_eq_true.1 h j hj)⟩
    | tuple c => exact VR.mkTuple ⟨rfl, fun j hj _ => freeD_rel ρ m (Array.all_eq_true.1 h j hj)⟩
    | iface t v => exact .iface t (freeD_rel ρ m h)
    | _ => exact leafFree_rel ρ h
theorem free_rel (ρ : Ren) {v : Value} (h : free v = true) : VR ρ v v := freeD_rel ρ 4 h
def zerosB (P : Program) : Bool := P.types.all fun i => match i.zero with | some v => free v | none => true
def Zeros (P : Program) : Prop := ∀ t i v, P.info? t = some i → i.zero = some v → ∀ ρ : Ren, VR ρ v v
theorem forIn_keeps {α β : Type} (I : β → Prop) (f : α → β → Option (ForInStep β)) (hf : ∀ a b r, I b → f a b = some r → I r.value) : ∀ (l : List α) (b r : β), I b → forIn l b f = some r → I r
  | [], b, r, hb, h => by
    rw [List.forIn_nil] at h
    injection h with h; subst h; exact hb
  | a :: l, b, r, hb, h => by
    rw [List.forIn_cons] at h
    simp only [bind, Option.bind_eq_some_iff] at h
    obtain ⟨x, h1, h2⟩ := h
    have := hf a b x hb h1
    cases x with
    | done y => injection h2 with h2; subst h2; exact this
    | yield y => exact forIn_keeps I f hf l y r this h2
theorem AR.self {ρ : Ren} {c : Array Value} (h : ∀ x ∈ c, VR ρ x x) : AR ρ c c := ⟨rfl, fun j hj _ => h _ (Array.getElem_mem hj)⟩
theorem AR.memSelf {ρ : Ren} {c : Array Value} (h : AR ρ c c) : ∀ x ∈ c, VR ρ x x := by
  intro x hx
  obtain ⟨j, hj, rfl⟩ := Array.mem_iff_getElem.1 hx
  exact h.2 j hj hj
theorem reckon_zero {info : TypeId → Option TypeInfo} (hi : ∀ t i v, info t = some i → i.zero = some v → ∀ ρ : Ren, VR ρ v v) {d : TypeDesc} {i : TypeInfo} (h : Made.reckon info d = some i) {v : Value} (hv : i.zero = some v) (ρ : Ren) : VR ρ v v := by
  unfold Made.reckon at h
  split at h
  case h_6 n e =>
    simp only [bind, Option.bind_eq_some_iff, pure] at h
    obtain ⟨j, h1, s, h2, h⟩ := h
    injection h with h; subst h
    dsimp only at hv
    split at hv
    · cases hv
    · split at hv
      · injection hv with hv; subst hv
        exact VR.mkAgg (AR.empty ρ)
      · rw [Option.map_eq_some_iff] at hv
        obtain ⟨z, h3, rfl⟩ := hv
        refine VR.mkAgg (AR.self fun x hx => ?_)
        rw [Array.mem_flatten] at hx
        obtain ⟨l, g1, g2⟩ := hx
        rw [Array.mem_replicate] at g1
        obtain ⟨_, rfl⟩ := g1
        exact (hi e j z h1 h3 ρ).cells.memSelf x g2
  case h_7 fs =>
    unfold Made.reckonStruct at h
    simp only [bind, Option.bind_eq_some_iff, pure] at h
    obtain ⟨a, h1, h⟩ := h
    rw [← Array.forIn_toList] at h1
    have key : ∀ c, a.2.2.2.2.2.2.2.1 = some c → ∀ x ∈ c, VR ρ x x := by
      refine forIn_keeps (I := fun a => ∀ c, a.2.2.2.2.2.2.2.1 = some c → ∀ x ∈ c, VR ρ x x) _ ?_ _ _ _ ?_ h1
      · intro a b r hb hr c hc x hx
        simp only [bind, Option.bind_eq_some_iff, pure] at hr
        obtain ⟨i, h2, hr⟩ := hr
        have key : ∀ q, (if b.2.1 + i.size > Made.mostCells then none else b.2.2.2.2.2.2.2.1.bind fun z => i.zero.bind fun y => some (z ++ y.cells)) = some q → ∀ x ∈ q, VR ρ x x := by
          intro q hq x hx
          split at hq
          · cases hq
          · simp only [Option.bind_eq_some_iff] at hq
            obtain ⟨z, h3, y, h4, h5⟩ := hq
            injection h5 with h5; subst h5
            rw [Array.mem_append] at hx
            rcases hx with hx | hx
            · exact hb z h3 x hx
            · exact (hi _ _ _ h2 h4 ρ).cells.memSelf x hx
        clear h1
        repeat' first
          | (injection hr with hr; subst hr; exact key c hc x hx)
          | (cases hr; done)
          | (rw [Option.bind_eq_some_iff] at hr; obtain ⟨_, _, hr⟩ := hr)
          | (split at hr)
      · intro c hc x hx
        injection hc with hc; subst hc
        simp at hx
    have fin : ∀ q, a.2.2.2.2.2.2.2.1.map Value.agg = some q → VR ρ q q := by
      intro q hq
      rw [Option.map_eq_some_iff] at hq
      obtain ⟨c, h3, rfl⟩ := hq
      exact VR.mkAgg (AR.self (key c h3))
    split at h
    all_goals
      injection h with h; subst h
      exact fin v hv
  all_goals try simp only [bind, Option.bind_eq_some_iff, pure] at h
  all_goals repeat' first
    | (injection h with h; subst h; injection hv with hv; subst hv; first | exact .nilPtr | exact .nilSlice _ _ | exact .nilMap | exact .nilChan | exact .nilFunc)
    | (cases h; done)
    | (split at h)
    | (simp only [Option.bind_eq_some_iff] at h; obtain ⟨_, _, h⟩ := h)
    | (obtain ⟨_, _, h⟩ := h)
theorem zeros_of {P : Program} (h : zerosB P = true) : Zeros P := by
  have row : ∀ (t : TypeId) (i : TypeInfo) (v : Value), P.types[t]? = some i → i.zero = some v → ∀ ρ : Ren, VR ρ v v := by
    intro t i v h1 h2 ρ
    unfold zerosB at h
    obtain ⟨hlt, rfl⟩ := Array.getElem?_eq_some_iff.1 h1
    have := Array.all_eq_true.1 h t hlt
    rw [h2] at this
    exact free_rel ρ this
  have at_ : ∀ (f : Nat) (t : TypeId) (i : TypeInfo) (v : Value), Made.infoAt P.toTables f t = some i → i.zero = some v → ∀ ρ : Ren, VR ρ v v := by
    intro f
    induction f with
    | zero => intro t i v h1; cases h1
    | succ f ih =>
      intro t i v h1 h2 ρ
      unfold Made.infoAt at h1
      split at h1
      · exact row t i v h1 h2 ρ
      · rw [Option.bind_eq_some_iff] at h1
        obtain ⟨d, _, h1⟩ := h1
        exact reckon_zero ih h1 h2 ρ
  intro t i v h1 h2
  unfold Tables.info? at h1
  split at h1
  · exact row t i v h1 h2
  · exact at_ _ t i v h1 h2

theorem add_none (b o k : Nat) : (⟨b, o, none⟩ : Addr).add k = ⟨b, o + k, none⟩ := by
  unfold Addr.add
  split
  · rename_i h; subst h; rfl
  · rfl

section
variable {P : Program} {B : Nat} {w0 : Base} {ρ : Ren}
theorem Sim.underlying (t : TypeId) : Sim P B w0 ρ (underlying t) (underlying t) (fun _ d d' => d' = d ∧ P.underlying t = some d) := by
  unfold Go.underlying
  refine Sim.bind Sim.program ?_
  rintro ρ' p p' hle ⟨rfl, rfl⟩
  cases h : P.underlying t with
  | none => exact Sim.stuck
  | some d => exact Sim.pure ⟨rfl, rfl⟩
theorem Sim.typeInfo (t : TypeId) : Sim P B w0 ρ (typeInfo t) (typeInfo t) (fun _ d d' => d' = d ∧ P.info? t = some d) := by
  unfold Go.typeInfo
  refine Sim.bind Sim.program ?_
  rintro ρ' p p' hle ⟨rfl, rfl⟩
  cases h : P.info? t with
  | none => exact Sim.stuck
  | some d => exact Sim.pure ⟨rfl, rfl⟩
theorem Sim.sizeOf (t : TypeId) : Sim P B w0 ρ (sizeOf t) (sizeOf t) (fun _ n n' => n' = n ∧ ∃ i, P.info? t = some i ∧ i.size = n) := by
  unfold Go.sizeOf
  refine Sim.bind (Sim.typeInfo t) ?_
  rintro ρ' p p' hle ⟨rfl, h⟩
  exact Sim.pure ⟨rfl, p', h, rfl⟩
theorem Sim.isAgg (t : TypeId) : Sim P B w0 ρ (isAgg t) (isAgg t) (fun _ n n' => n' = n) := by
  unfold Go.isAgg
  refine Sim.bind (Sim.underlying t) ?_
  rintro ρ' d d' hle ⟨rfl, h⟩
  cases d' <;> exact Sim.pure rfl
theorem Sim.zeroValue (hz : Zeros P) (t : TypeId) : Sim P B w0 ρ (zeroValue t) (zeroValue t) (fun ρ' v v' => v' = v ∧ VR ρ' v v) := by
  unfold Go.zeroValue
  refine Sim.bind (Sim.typeInfo t) ?_
  rintro ρ' i i' hle ⟨rfl, h⟩
  cases h2 : i'.zero with
  | none => exact Sim.unsupported
  | some v => exact Sim.pure ⟨rfl, (hz t i' v h h2) _⟩
theorem Sim.loadCellsFrom {b o : Nat} {i : Info} (n : Nat) : ∀ (ρ : Ren) (k : Nat) (acc acc' : Array Value), ρ b = some i → AR ρ acc acc' →
    Sim P B w0 ρ (loadCellsFrom ⟨b, o, none⟩ k n acc) (loadCellsFrom ⟨i.g, o, none⟩ k n acc') AR := by
  induction n with
  | zero => intro ρ k acc acc' hi ha; exact Sim.pure ha
  | succ n ih =>
    intro ρ k acc acc' hi ha
    unfold Go.loadCellsFrom
    rw [add_none, add_none]
    refine Sim.bind (Sim.load hi _) ?_
    intro ρ' v v' hle hv
    exact ih ρ' (k + 1) _ _ (hle _ _ hi) ((ha.mono hle).push hv)
theorem Sim.loadCells {b o : Nat} {i : Info} (hi : ρ b = some i) (n : Nat) : Sim P B w0 ρ (loadCells ⟨b, o, none⟩ n) (loadCells ⟨i.g, o, none⟩ n) AR :=
  Sim.loadCellsFrom n ρ 0 #[] #[] hi (AR.empty ρ)
theorem Sim.storeCells {b o : Nat} {i : Info} : ∀ (l l' : List Value) (ρ : Ren) (k : Nat), ρ b = some i → l.length = l'.length → (∀ (j : Nat) (v v' : Value), l[j]? = some v → l'[j]? = some v' → VR ρ v v') →
    Sim P B w0 ρ (storeCells ⟨b, o, none⟩ l k) (storeCells ⟨i.g, o, none⟩ l' k) (fun _ _ _ => True)
  | [], [], ρ, k, _, _, _ => Sim.pure trivial
  | [], _ :: _, ρ, k, _, h, _ => by simp at h
  | _ :: _, [], ρ, k, _, h, _ => by simp at h
  | v :: l, v' :: l', ρ, k, hi, hl, hr => by
    unfold Go.storeCells
    rw [add_none, add_none]
    refine Sim.bind (Sim.store hi (hr 0 v v' rfl rfl) _) ?_
    intro ρ' _ _ hle _
    exact Sim.storeCells l l' ρ' (k + 1) (hle _ _ hi) (by simpa using hl) (fun j x x' h1 h2 => (hr (j + 1) x x' (by simpa using h1) (by simpa using h2)).mono hle)
theorem AR.list {c c' : Array Value} (h : AR ρ c c') : c.toList.length = c'.toList.length ∧ ∀ (j : Nat) (v v' : Value), c.toList[j]? = some v → c'.toList[j]? = some v' → VR ρ v v' := by
  refine ⟨by simpa using h.1, fun j v v' h1 h2 => ?_⟩
  rw [Array.getElem?_toList] at h1 h2
  obtain ⟨x, h3, h4⟩ := h.at h1
  rw [h3] at h2; injection h2 with h2; subst h2; exact h4
theorem Sim.loadVar {b o : Nat} {i : Info} (hi : ρ b = some i) (t : TypeId) : Sim P B w0 ρ (loadVar t ⟨b, o, none⟩) (loadVar t ⟨i.g, o, none⟩) VR := by
  unfold Go.loadVar
  refine Sim.bind (Sim.isAgg t) ?_
  rintro ρ' _ x hle rfl
  cases x with
  | true =>
    refine Sim.bind (Sim.sizeOf t) ?_
    rintro ρ2 n n' hle2 ⟨rfl, _⟩
    refine Sim.bind (Sim.loadCells (hle2 _ _ (hle _ _ hi)) n') ?_
    intro ρ3 c c' hle3 hc
    exact Sim.pure (VR.mkAgg hc)
  | false => exact Sim.load (hle _ _ hi) _
theorem Sim.storeVar {b o : Nat} {i : Info} (hi : ρ b = some i) (t : TypeId) {v v' : Value} (hv : VR ρ v v') : Sim P B w0 ρ (storeVar t ⟨b, o, none⟩ v) (storeVar t ⟨i.g, o, none⟩ v') (fun _ _ _ => True) := by
  unfold Go.storeVar
  refine Sim.bind (Sim.sizeOf t) ?_
  rintro ρ' n n' hle ⟨rfl, _⟩
  have hc := (hv.mono hle).cells
  rw [← hc.1]
  by_cases hn : v.cells.size ≠ n'
  · rw [if_pos hn, if_pos hn]
    exact Sim.bind (R := fun _ _ _ => False) Sim.stuck (fun _ _ _ _ h => h.elim)
  · rw [if_neg hn, if_neg hn]
    have hc2 := hc.list
    exact Sim.storeCells _ _ ρ' 0 (hle _ _ hi) hc2.1 hc2.2
theorem Sim.newRow {c c' : Array Value} (hc : AR ρ c c') (e : TypeId) : Sim P B w0 ρ (newRow e c) (newRow e c') (fun ρ' a a' => ∃ b i, a = ⟨b, 0, none⟩ ∧ ρ' b = some i ∧ i.loose = false ∧ a' = ⟨i.g, 0, none⟩) := by
  refine ⟨fun A w hs a A' ha => ?_, fun a ha => ?_⟩
  rotate_left
  · simp only [Go.newRow, newObj, Bind.bind, Pure.pure, Sem.bind, pureRun, runA, noMem_room, cond_false] at ha; cases ha
  simp only [Go.newRow, newObj, Bind.bind, Pure.pure, Sem.bind, runA] at ha
  cases hr : A.room with
  | false => rw [hr] at ha; simp at ha
  | true =>
    rw [hr] at ha
    simp only [cond_true] at ha
    injection ha with ha; injection ha with h1 h2; subst h1 h2
    have hi := Ren.more_self ρ A.next ⟨w.heap.size, false, false, 0, 0⟩
    refine ⟨_, ⟨w.heap.size, 0, none⟩, { w with heap := w.heap.push (.cells c' e) }, rfl, Ren.le_more hs.fresh, ?_, A.next, _, rfl, hi, rfl, rfl⟩
    refine hs.new hr rfl rfl rfl (by simp) (Nat.le_trans hs.low hs.below.size) (by simp) (fun k hk hlt => by simp [Array.getElem?_push, Nat.ne_of_lt hlt]) (fun b y j hy hj he => ?_) hs.mkNew (.exact rfl rfl (hc.mono (Ren.le_more hs.fresh)) rfl)
    obtain ⟨_, oj, hoj, _⟩ := hs.blk b y j hy hj
    have := (Array.getElem?_eq_some_iff.1 hoj).1
    simp only at he
    omega
theorem Sim.newVar {v v' : Value} (hv : VR ρ v v') (t : TypeId) : Sim P B w0 ρ (newVar t v) (newVar t v') (fun ρ' a a' => ∃ b i, a = ⟨b, 0, none⟩ ∧ ρ' b = some i ∧ i.loose = false ∧ a' = ⟨i.g, 0, none⟩) :=
  Sim.newRow hv.cells t
theorem Sim.part {c c' : Array Value} (hc : AR ρ c c') (t : TypeId) (o : Nat) : Sim P B w0 ρ (part t c o) (part t c' o) VR := by
  unfold Go.part
  refine Sim.bind (Sim.isAgg t) ?_
  rintro ρ' _ x hle rfl
  cases x with
  | true =>
    refine Sim.bind (Sim.sizeOf t) ?_
    rintro ρ2 n n' hle2 ⟨rfl, _⟩
    exact Sim.pure (VR.mkAgg (((hc.mono hle).mono hle2).extract _ _))
  | false =>
    simp only [Bool.false_eq_true, if_false]
    cases h : c[o]? with
    | none => exact Sim.stuck
    | some v =>
      obtain ⟨v', h1, h2⟩ := hc.at h
      rw [h1]
      exact Sim.pure (h2.mono hle)
theorem Sim.asIntOf {v v' : Value} (hv : VR ρ v v') : Sim P B w0 ρ (asIntOf v) (asIntOf v') (fun _ x x' => x' = x ∧ v = .int x.1 x.2 ∧ v' = .int x.1 x.2) := by
  cases hv <;> first
    | exact Sim.pure ⟨rfl, rfl, rfl⟩
    | exact Sim.stuck
    | exact Sim.unsupported
theorem Sim.asInt {v v' : Value} (hv : VR ρ v v') : Sim P B w0 ρ (asInt v) (asInt v') (fun _ x x' => x' = x) := by
  unfold Go.asInt
  refine Sim.bind (Sim.asIntOf hv) ?_
  rintro ρ' x _ _ ⟨rfl, _⟩
  exact Sim.pure rfl
theorem Sim.asBool {v v' : Value} (hv : VR ρ v v') : Sim P B w0 ρ (asBool v) (asBool v') (fun _ x x' => x' = x) := by
  cases hv <;> first
    | exact Sim.pure rfl
    | exact Sim.stuck
theorem Sim.asAgg {v v' : Value} (hv : VR ρ v v') : Sim P B w0 ρ (asAgg v) (asAgg v') AR := by
  cases hv <;> first
    | exact Sim.stuck
    | (rename_i h1 h2; exact Sim.pure ⟨h1, h2⟩)
theorem Sim.sureAddr {v v' : Value} (hv : VR ρ v v') : Sim P B w0 ρ (Instr.sureAddr v) (Instr.sureAddr v') (fun _ a a' => ∃ b o i, a = ⟨b, o, none⟩ ∧ ρ b = some i ∧ a' = ⟨i.g, o, none⟩) := by
  cases hv <;> first
    | exact Sim.stuck
    | (rename_i h; exact Sim.pure ⟨_, _, _, rfl, h, rfl⟩)
theorem Sim.asAddr {v v' : Value} (hv : VR ρ v v') : Sim P B w0 ρ (asAddr v) (asAddr v') (fun _ a a' => ∃ b o i, a = ⟨b, o, none⟩ ∧ ρ b = some i ∧ a' = ⟨i.g, o, none⟩) := by
  cases hv <;> first
    | exact Sim.stuck
    | (show Sim P B w0 ρ (runtimePanic .nilDeref) _ _; exact Sim.panic)
    | (rename_i h; exact Sim.pure ⟨_, _, _, rfl, h, rfl⟩)
end
end Go.Proofs.YthnmadbfebjpkaaGreatDoor.Sim
