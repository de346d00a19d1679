/- A verified evaluator, part L: loads; regions. Of no program. -/
import Derived.Test.YtfeppmhcpfccfaaGreatDoorSimU
import Derived.OrdersHeld
import Derived.Laws.Cells
import Derived.LoopN
import Derived.Scope
import Derived.Conc.LoneCalls
set_option linter.unusedVariables false
set_option linter.unusedSimpArgs false
namespace Go.Proofs.YtfeppmhcpfccfaaGreatDoor.Sim
open Go Go.RowKit

/-- are two values one? -/
def eqV : Nat → Value → Value → Bool
  | 0, _, _ => false
  | n + 1, a, b => match a, b with
    | .bool x, .bool y => x == y
    | .int k x, .int k' y => decide (k = k') && decide (x = y)
    | .float k x, .float k' y => decide (k = k') && Nat.beq x y
    | .string x, .string y => decide (x.data.toList = y.data.toList)
    | .pointer x, .pointer y => decide (x = y)
    | .slice x i j, .slice y i' j' => decide (x = y) && Nat.beq i i' && Nat.beq j j'
    | .map x, .map y => decide (x = y)
    | .nilFunc, .nilFunc => true
    | .nilIface, .nilIface => true
    | .func fn f c, .func fn' f' c' => decide (fn = fn') && eqL (eqV n) f.toList f'.toList && eqL (eqV n) c.toList c'.toList
    | .iface t v, .iface t' v' => Nat.beq t t' && eqV n v v'
    | .agg c, .agg c' => eqL (eqV n) c.toList c'.toList
    | .tuple c, .tuple c' => eqL (eqV n) c.toList c'.toList
    | _, _ => false
where eqL (f : Value → Value → Bool) : List Value → List Value → Bool
  | [], [] => true
  | x :: l, y :: m => f x y && eqL f l m
  | _, _ => false
theorem eqL_eq {f : Value → Value → Bool} (hf : ∀ x y, f x y = true → x = y) : ∀ {l m : List Value}, eqV.eqL f l m = true → l = m
  | [], [], _ => rfl
  | [], _ :: _, h => by cases h
  | _ :: _, [], h => by cases h
  | x :: l, y :: m, h => by
    simp only [eqV.eqL, Bool.and_eq_true] at h
    rw [hf x y h.1, eqL_eq hf h.2]
theorem eqV_eq : ∀ (n : Nat) (a b : Value), eqV n a b = true → a = b
  | 0, _, _, h => by cases h
  | n + 1, a, b, h => by
    have ih := eqV_eq n
    cases a with
    | bool x => cases b with
      | bool y => simp only [eqV, beq_iff_eq] at h; rw [h]
      | _ => cases h
    | int k x => cases b with
      | int k' y => simp only [eqV, Bool.and_eq_true, decide_eq_true_eq] at h; rw [h.1, h.2]
      | _ => cases h
    | string x => cases b with
      | string y =>
        simp only [eqV, decide_eq_true_eq] at h
        congr 1
        exact ByteArray.ext (Array.toList_inj.1 h)
      | _ => cases h
    | pointer x => cases b with
      | pointer y => simp only [eqV, decide_eq_true_eq] at h; rw [h]
      | _ => cases h
    | slice x i j => cases b with
      | slice y i' j' =>
        simp only [eqV, Bool.and_eq_true, decide_eq_true_eq] at h
        rw [h.1.1, Tr.beq_iff.1 h.1.2, Tr.beq_iff.1 h.2]
      | _ => cases h
    | map x => cases b with
      | map y => simp only [eqV, decide_eq_true_eq] at h; rw [h]
      | _ => cases h
    | nilFunc => cases b with
      | nilFunc => rfl
      | _ => cases h
    | nilIface => cases b with
      | nilIface => rfl
      | _ => cases h
    | func fn f c => cases b with
      | func fn' f' c' =>
        simp only [eqV, Bool.and_eq_true, decide_eq_true_eq] at h
        rw [h.1.1, Array.toList_inj.1 (eqL_eq ih h.1.2), Array.toList_inj.1 (eqL_eq ih h.2)]
      | _ => cases h
    | iface t v => cases b with
      | iface t' v' =>
        simp only [eqV, Bool.and_eq_true] at h
        rw [Tr.beq_iff.1 h.1, ih v v' h.2]
      | _ => cases h
    | float k x => cases b with
      | float k' y => simp only [eqV, Bool.and_eq_true, decide_eq_true_eq] at h; rw [h.1, Tr.beq_iff.1 h.2]
      | _ => cases h
    | agg c => cases b with
      | agg c' => simp only [eqV] at h; rw [Array.toList_inj.1 (eqL_eq ih h)]
      | _ => cases h
    | tuple c => cases b with
      | tuple c' => simp only [eqV] at h; rw [Array.toList_inj.1 (eqL_eq ih h)]
      | _ => cases h
    | _ => cases b <;> cases h

abbrev Held := Nat × Nat × List Value
/-- what a load reads -/
def loadL (P : Program) (A : AW) (ty : TypeId) (x : Value) : Option (Held × Value) :=
  match x with
  | .pointer (some ⟨b, o, none⟩) =>
    match P.underlying ty with
    | some (.struct _) | some (.array _ _) => match P.info? ty with
      | some i => match cellsA A b o i.size with
        | some l => some ((b, o, l), .agg l.toArray)
        | none => none
      | none => none
    | some _ => match cellsA A b o 1 with
      | some [v] => some ((b, o, [v]), v)
      | _ => none
    | none => none
  | _ => none

section
variable {P : Program} {B : Nat} {w0 : Base} {ρ : Ren} {A : AW} {w : World} {t t' : Array Value}
theorem loadL_sound (h : SR P B w0 ρ A w) {ty : TypeId} {x x' : Value} (hx : VR ρ x x') {b o : Nat} {l : List Value} {v : Value} (hl : loadL P A ty x = some ((b, o, l), v)) :
    ∃ i l' v', ρ b = some i ∧ LR ρ l l' ∧ (∀ (j : Nat) (u : Value), l'[j]? = some u → w.cell? ⟨i.g, o + i.sh + j, none⟩ = some u) ∧ VR ρ v v' ∧
      ∀ W : World, (∀ (j : Nat) (u : Value), l'[j]? = some u → W.cell? ⟨i.g, o + i.sh + j, none⟩ = some u) → (Instr.loadAt ty x').run P W = .ok v' W := by
  unfold loadL at hl
  cases hx with
  | ptr hi =>
    rename_i b1 o1 i
    dsimp only at hl
    have agg : ∀ {d : TypeDesc}, P.underlying ty = some d → (∀ W, (isAgg ty).run P W = .ok true W) → (match P.info? ty with
        | some i => match cellsA A b1 o1 i.size with
          | some l => some (((b1, o1, l), Value.agg l.toArray) : Held × Value)
          | none => none
        | none => none) = some ((b, o, l), v) → ∃ i l' v', ρ b = some i ∧ LR ρ l l' ∧ (∀ (j : Nat) (u : Value), l'[j]? = some u → w.cell? ⟨i.g, o + i.sh + j, none⟩ = some u) ∧ VR ρ v v' ∧
      ∀ W : World, (∀ (j : Nat) (u : Value), l'[j]? = some u → W.cell? ⟨i.g, o + i.sh + j, none⟩ = some u) → (Instr.loadAt ty (.pointer (some ⟨i.g, o1 + i.sh, none⟩))).run P W = .ok v' W := by
      intro d hd hagg hl
      cases hti : P.info? ty with
      | none => rw [hti] at hl; cases hl
      | some ti =>
        rw [hti] at hl
        dsimp only at hl
        cases hc : cellsA A b1 o1 ti.size with
        | none => rw [hc] at hl; cases hl
        | some l2 =>
          rw [hc] at hl
          dsimp only at hl
          injection hl with hl
          injection hl with h1 h2
          injection h1 with h3 h4
          injection h4 with h5 h6
          subst h3 h5 h6 h2
          obtain ⟨l', g1, g2⟩ := h.cells hi _ _ _ hc
          have hlen : l'.length = ti.size := by rw [← g1.1]; exact cellsA_len _ _ _ _ hc
          refine ⟨i, l', _, hi, g1, g2, VR.mkAgg g1.toAR, fun W hW => ?_⟩
          have hld := run_loadCells_list (P := P) W ⟨i.g, o1 + i.sh, none⟩ l' (fun j u hu => by rw [add_none]; exact hW j u hu)
          rw [hlen] at hld
          simp [Instr.loadAt, Instr.sureAddr, loadVar, hagg, sizeOf, typeInfo, hti, hld]
    have one : ∀ {d : TypeDesc}, P.underlying ty = some d → (∀ W, (isAgg ty).run P W = .ok false W) → (match cellsA A b1 o1 1 with
        | some [v] => some (((b1, o1, [v]), v) : Held × Value)
        | _ => none) = some ((b, o, l), v) → ∃ i l' v', ρ b = some i ∧ LR ρ l l' ∧ (∀ (j : Nat) (u : Value), l'[j]? = some u → w.cell? ⟨i.g, o + i.sh + j, none⟩ = some u) ∧ VR ρ v v' ∧
      ∀ W : World, (∀ (j : Nat) (u : Value), l'[j]? = some u → W.cell? ⟨i.g, o + i.sh + j, none⟩ = some u) → (Instr.loadAt ty (.pointer (some ⟨i.g, o1 + i.sh, none⟩))).run P W = .ok v' W := by
      intro d hd hagg hl
      split at hl
      rotate_left
      · cases hl
      rename_i v1 hc
      injection hl with hl
      injection hl with h1 h2
      injection h1 with h3 h4
      injection h4 with h5 h6
      subst h3 h5 h6 h2
      obtain ⟨l', g1, g2⟩ := h.cells hi _ _ _ hc
      obtain ⟨v', g3, g4⟩ := g1.at (j := 0) rfl
      refine ⟨i, l', v', hi, g1, g2, g4, fun W hW => ?_⟩
      have := hW 0 v' g3
      rw [Nat.add_zero] at this
      simp [Instr.loadAt, Instr.sureAddr, loadVar, hagg, Go.load, Sem.run, this]
    cases hu : P.underlying ty with
    | none => rw [hu] at hl; cases hl
    | some d =>
      rw [hu] at hl
      have ia : ∀ (q : Bool), (match d with | .struct _ | .array _ _ => true | _ => false) = q → ∀ W, (isAgg ty).run P W = .ok q W := by
        intro q hq W
        cases d <;> simp only at hq <;> subst hq <;> simp [isAgg, run_underlying hu]
      cases d with
      | struct fs =>
        obtain ⟨i2, l', v', q1, q2, q3, q4, q5⟩ := agg hu (ia true rfl) hl
        have : i2 = i := by
          have e : b = b1 := by
            dsimp only at hl
            split at hl
            · split at hl
              · injection hl with hl; injection hl with h1 _; injection h1 with h3 _; exact h3.symm
              · cases hl
            · cases hl
          rw [e, hi] at q1; injection q1 with q1; exact q1.symm
        subst this
        exact ⟨i2, l', v', q1, q2, q3, q4, q5⟩
      | array n e =>
        obtain ⟨i2, l', v', q1, q2, q3, q4, q5⟩ := agg hu (ia true rfl) hl
        have : i2 = i := by
          have e : b = b1 := by
            dsimp only at hl
            split at hl
            · split at hl
              · injection hl with hl; injection hl with h1 _; injection h1 with h3 _; exact h3.symm
              · cases hl
            · cases hl
          rw [e, hi] at q1; injection q1 with q1; exact q1.symm
        subst this
        exact ⟨i2, l', v', q1, q2, q3, q4, q5⟩
      | _ =>
        obtain ⟨i2, l', v', q1, q2, q3, q4, q5⟩ := one hu (ia false rfl) hl
        have : i2 = i := by
          have e : b = b1 := by
            dsimp only at hl
            split at hl
            · injection hl with hl; injection hl with h1 _; injection h1 with h3 _; exact h3.symm
            · cases hl
          rw [e, hi] at q1; injection q1 with q1; exact q1.symm
        subst this
        exact ⟨i2, l', v', q1, q2, q3, q4, q5⟩
  | _ => cases hl
end
end Go.Proofs.YtfeppmhcpfccfaaGreatDoor.Sim
/- A verified evaluator, part M: what a region's operations do ahead of the world. Of no program. -/
namespace Go.Proofs.YtfeppmhcpfccfaaGreatDoor.Sim
open Go Go.RowKit

/-- how many entries a map has -/
def lenM (P : Program) (A : AW) (ts : Array TypeId) (v : Value) : Option Value := match v with
  | .map (some b) => match ts[0]? with
    | some ty => match P.underlying ty with
      | some (.map _ _) => match A.heap.get b with
        | some ⟨.map es _, _, _⟩ => some (.int .i64 (es.size : Int))
        | _ => none
      | _ => none
    | none => none
  | _ => none
theorem lenM_spec {P : Program} {A : AW} {ts : Array TypeId} {v u : Value} (h : lenM P A ts v = some u) : ∃ b ty k e es c f r, v = .map (some b) ∧ ts[0]? = some ty ∧ P.underlying ty = some (.map k e) ∧ A.heap.get b = some ⟨.map es c, f, r⟩ ∧ u = .int .i64 (es.size : Int) := by
  unfold lenM at h
  split at h
  rotate_left
  · cases h
  split at h
  rotate_left
  · cases h
  rename_i hts
  split at h
  rotate_left
  · cases h
  rename_i hu
  split at h
  rotate_left
  · cases h
  rename_i hb
  injection h with h
  exact ⟨_, _, _, _, _, _, _, _, rfl, hts, hu, hb, h.symm⟩
theorem lenM_of {P : Program} {A : AW} {ts : Array TypeId} {b : Nat} {ty k e : TypeId} {es : Array MapEntry} {c : Nat} {f r : Bool} (h1 : ts[0]? = some ty) (h2 : P.underlying ty = some (.map k e)) (h3 : A.heap.get b = some ⟨.map es c, f, r⟩) : lenM P A ts (.map (some b)) = some (.int .i64 (es.size : Int)) := by
  unfold lenM
  dsimp only
  rw [h1]
  dsimp only
  rw [h2]
  dsimp only
  rw [h3]
/-- how many values a channel holds -/
def lenC (P : Program) (A : AW) (ts : Array TypeId) (b : Nat) : Option Value := match ts[0]? with
  | some ty => match P.underlying ty with
    | some (.chan _ _) => match A.heap.get b with
      | some ⟨.chan _ buf false 0 0 false, false, false⟩ => some (.int .i64 (buf.size : Int))
      | _ => none
    | _ => none
  | none => none
theorem lenC_spec {P : Program} {A : AW} {ts : Array TypeId} {b : Nat} {u : Value} (h : lenC P A ts b = some u) : ∃ ty d e cap buf, ts[0]? = some ty ∧ P.underlying ty = some (.chan d e) ∧ A.heap.get b = some ⟨.chan cap buf false 0 0 false, false, false⟩ ∧ u = .int .i64 (buf.size : Int) := by
  unfold lenC at h
  split at h
  rotate_left
  · cases h
  rename_i hts
  split at h
  rotate_left
  · cases h
  rename_i hu
  split at h
  rotate_left
  · cases h
  rename_i hb
  injection h with h
  exact ⟨_, _, _, _, _, hts, hu, hb, h.symm⟩
theorem lenC_of {P : Program} {A : AW} {ts : Array TypeId} {b : Nat} {ty e : TypeId} {d : ChanDir} {cap : Nat} {buf : Array Value} (h1 : ts[0]? = some ty) (h2 : P.underlying ty = some (.chan d e)) (h3 : A.heap.get b = some ⟨.chan cap buf false 0 0 false, false, false⟩) : lenC P A ts b = some (.int .i64 (buf.size : Int)) := by
  unfold lenC
  rw [h1]
  dsimp only
  rw [h2]
  dsimp only
  rw [h3]
  rfl
/-- a value that is read -/
def opM (P : Program) (t : Operand → Value) (A : AW) (o : Oper) : Option Value := match o.op with
  | .load ty a => match loadL P A ty (t a) with
    | some (_, v) => some v
    | none => none
  | .slice ty x lo hi none => sliceA P ty (t x) (lo.map t) (hi.map t) A
  | .call ⟨.builtin .len, args, ts⟩ => match args.toList with
    | [x] => match t x with
      | .chan (some b) => lenC P A ts b
      | _ => lenM P A ts (t x)
    | _ => none
  | _ => none
/-- a block that is made: its cells, its elements' type, a slice's length -/
def ghostA (P : Program) (t : Operand → Value) (o : Oper) : Option (Array Value × TypeId × Option (Nat × Nat)) := match o.op with
  | .alloc e => match P.info? e with
    | some i => match i.zero with
      | some z => some (z.cells, e, none)
      | none => none
    | none => none
  | .box e x => some ((t x).cells, e, none)
  | .buildSlice ty len ps => match P.underlying ty with
    | some (.slice e) => match P.info? e with
      | some ie => match ie.zero with
        | some z =>
          bif Nat.ble (len * ie.size) 16777216 then
            match Instr.fill (fun i => some (i * ie.size, ie.size)) ((Array.range (len * ie.size)).map (z.cells[· % z.cells.size]!)) (partsA t ps) with
            | some cells => some (cells, e, some (len, len))
            | none => none
          else none
        | none => none
      | none => none
    | _ => none
  | .makeSlice ty l c => match P.underlying ty, t l, t c with
    | some (.slice e), .int _ zl, .int _ zc => match P.info? e with
      | some i => match i.zero with
        | some z => bif decide (0 ≤ zl) && decide (zl ≤ zc) && Nat.ble (zc.toNat * i.size) 16777216 && Nat.ble (i.bytes * zc.toNat) 281474976710656 && Nat.ble zc.toNat 4611686018427387904 then
            some (madeCells z.cells (zc.toNat * i.size), e, some (zl.toNat, zc.toNat))
          else none
        | none => none
      | none => none
    | _, _, _ => none
  | _ => none
def ghostV (b : Nat) : Option (Nat × Nat) → Value
  | none => .pointer (some ⟨b, 0, none⟩)
  | some n => .slice (some ⟨b, 0, none⟩) n.1 n.2
inductive Cls where
  | pure
  | mem
  | ghost
def cls (t : Operand → Value) (o : Oper) : Cls := match o.op with
  | .load _ _ => .mem
  | .slice _ x _ _ none => match t x with
    | .slice _ _ _ => .mem
    | _ => .pure
  | .alloc _ | .box _ _ | .buildSlice _ _ _ | .makeSlice _ _ _ => .ghost
  | .call ⟨.builtin .len, args, _⟩ => match args.toList with
    | [x] => match t x with
      | .map (some _) => .mem
      | .chan (some _) => .mem
      | _ => .pure
    | _ => .pure
  | _ => .pure
/-- what a quiet operation does -/
inductive QA where
  | val (v : Value)
  | ghost (c : Array Value) (e : TypeId) (k : Option (Nat × Nat))
def quietA (P : Program) (t : Operand → Value) (A : AW) (o : Oper) : Option QA := bif okOp o then match cls t o with
  | .pure => match opQ P t o with
    | some v => some (.val v)
    | none => none
  | .mem => match opM P t A o with
    | some v => some (.val v)
    | none => none
  | .ghost => match ghostA P t o with
    | some (c, e, k) => some (.ghost c e k)
    | none => none
  else none
/-- operations that look at memory -/
def memK (o : Oper) : Bool := match o.op with
  | .load _ _ => true
  | .slice _ _ _ _ _ => true
  | .call ⟨.builtin .len, _, _⟩ => true
  | _ => false
theorem quietA_mem {P : Program} {t : Operand → Value} {o : Oper} (h : memK o = false) (A A' : AW) : quietA P t A o = quietA P t A' o := by
  unfold quietA
  cases okOp o with
  | false => rfl
  | true =>
    simp only [cond_true]
    have hc : cls t o ≠ .mem := by
      unfold cls
      unfold memK at h
      split at h
      · cases h
      · cases h
      · cases h
      · rename_i h1 h2 h3
        split <;> first
          | (rename_i he; exact absurd he (h1 _ _))
          | (rename_i he; exact absurd he (h2 _ _ _ _ _))
          | (rename_i he; exact absurd he (h3 _ _))
          | (intro hx; cases hx; done)
    cases hq : cls t o with
    | mem => exact absurd hq hc
    | _ => rfl
/-- a memory with more in it -/
def AW.le (A A' : AW) : Prop := ∀ b x, A.heap.get b = some x → A'.heap.get b = some x
theorem cellsA_le {A A' : AW} (h : A.le A') {b o n : Nat} {l : List Value} (hc : cellsA A b o n = some l) : cellsA A' b o n = some l := by
  unfold cellsA at hc ⊢
  cases hb : A.heap.get b with
  | none => rw [hb] at hc; cases hc
  | some x => rw [h b x hb]; rw [hb] at hc; exact hc
theorem loadL_le {P : Program} {A A' : AW} (h : A.le A') {ty : TypeId} {x : Value} {r : Held × Value} (hl : loadL P A ty x = some r) : loadL P A' ty x = some r := by
  unfold loadL at hl ⊢
  split at hl
  · rename_i b o
    have key : ∀ n, cellsA A b o n = none ∨ cellsA A b o n = cellsA A' b o n := by
      intro n
      cases hc : cellsA A b o n with
      | none => exact .inl rfl
      | some l => exact .inr (cellsA_le h hc).symm
    split at hl
    · rename_i hu
      split at hl
      · rename_i i hi
        rcases key i.size with hk | hk
        · rw [hk] at hl; cases hl
        · rw [hk] at hl; exact hl
      · cases hl
    · rename_i hu
      split at hl
      · rename_i i hi
        rcases key i.size with hk | hk
        · rw [hk] at hl; cases hl
        · rw [hk] at hl; exact hl
      · cases hl
    · rename_i d h1 h2 hu
      rcases key 1 with hk | hk
      · rw [hk] at hl; cases hl
      · rw [hk] at hl; exact hl
    · cases hl
  · cases hl
theorem sliceA_le {P : Program} {A A' : AW} (h : A.le A') {ty : TypeId} {x : Value} {lo hi : Option Value} {v : Value} (hl : sliceA P ty x lo hi A = some v) : sliceA P ty x lo hi A' = some v := by
  unfold sliceA at hl ⊢
  split at hl
  · rename_i e a n c hu
    split at hl
    · rename_i i l k h1 h2 h3
      cases hq : Nat.ble l k && Nat.ble k c with
      | false => rw [hq] at hl; cases hl
      | true =>
        rw [hq, cond_true] at hl
        rw [cond_true]
        split at hl
        · exact hl
        · rename_i b o
          cases hb : A.heap.get b with
          | none => rw [hb] at hl; cases hl
          | some y => rw [h b y hb]; rw [hb] at hl; exact hl
        · cases hl
    · cases hl
  · cases hl

def putA (t : Array Value) (d : Option Tmp) (v : Value) : Array Value := match d with
  | some d => t.setIfInBounds d v
  | none => t
def glOp (gl : Nat → Bool) (o : Oper) : Bool := o.op.operands.toList.all (glX gl)
def dstOk (t : Array Value) : Option Tmp → Bool
  | some d => Nat.blt d t.size
  | none => false
/-- what a call, or a round, ends with -/
def EndS (P : Program) (B : Nat) (w0 : Base) (ρ : Ren) (K : Value → AW → Prop) (e : Ending) (w' : World) : Prop := ∃ ρ' v v' A', e = .returned v' ∧ K v A' ∧ ρ.le ρ' ∧ SR P B w0 ρ' A' w' ∧ VR ρ' v v'
/-- a call's end, whatever the world -/
def CallS (P : Program) (B : Nat) (w0 : Base) (f : FuncId) (args : Array Value) (A : AW) (K : Value → AW → Prop) : Prop :=
  ∀ (Γ : Nat → ABk → Prop) (M : List Nat) (ρ : Ren) (w : World) (args' : Array Value), SR P B ((w0.but Γ).marked M) ρ A w → AR ρ args args' →
    Calls P f args' w (EndS P B ((w0.but Γ).marked M) ρ K)
/-- a round of a loop -/
def RoundW (P : Program) (B : Nat) (w0 : Base) (b : Nat) (tmps : Array Value) (assign body : Code) (A : AW) (K : Value → AW → Prop) : Prop :=
  ∀ (Γ : Nat → ABk → Prop) (M : List Nat) (ρ : Ren) (w : World) (tmps' : Array Value) (i : Info) (f : FuncId), SR P B ((w0.but Γ).marked M) ρ A w → ρ b = some i → AR ρ tmps tmps' →
    RoundIn Fence.wide 0 P i.g f tmps' assign body w (EndS P B ((w0.but Γ).marked M) ρ K)
/-- the entries that a walk over a map may come to next, where there are several, all of them old -/
def nextAll (x : Value) (A : AW) : List (Value × AW) :=
  match x with
  | .pointer (some ⟨r, 0, none⟩) => match A.heap.get r with
    | some ⟨.mapIter (some b) since seen last, false, false⟩ => match A.heap.get b with
      | some ⟨.map es clock, _, _⟩ => bif !seen.isEmpty && !es.isEmpty && es.toList.all (fun e => decide (last ≤ e.born)) then [] else
        bif (es.toList.filter fun e => !seen.contains e.born).all (fun e => Nat.blt e.born since) && Nat.ble 2 (es.toList.filter fun e => !seen.contains e.born).length then
          (es.toList.filter fun e => !seen.contains e.born).map fun e => (.tuple #[.bool true, e.key, e.val], A.put r (some ⟨.mapIter (some b) since (seen.push e.born) clock, false, false⟩))
        else []
      | _ => []
    | _ => []
  | _ => []
theorem SR.drawn {P : Program} {B : Nat} {w0 : Base} {ρ : Ren} {A : AW} {w : World} (hs : SR P B w0 ρ A w) : SR P B w0 ρ A w.drew :=
  ⟨hs.below.drew, hs.low, hs.dom, hs.room, hs.lt, hs.off, hs.blk, hs.apart, hs.glo, hs.marks⟩
theorem nextAll_sound {P : Program} {B : Nat} {w0 : Base} {ρ : Ren} {A : AW} {w : World} (h : SR P B w0 ρ A w) {x x' : Value} (hx : VR ρ x x') (ty : TypeId) (hne : nextAll x A ≠ []) :
    ∃ p ∈ nextAll x A, ∃ v' w', (Instr.next x' false ty).run P w = .ok v' w' ∧ SR P B w0 ρ p.2 w' ∧ VR ρ p.1 v' := by
  unfold nextAll at hne ⊢
  split at hne
  rotate_left
  · exact absurd rfl hne
  rename_i r
  split at hne
  rotate_left
  · exact absurd rfl hne
  rename_i b since seen last hr
  split at hne
  rotate_left
  · exact absurd rfl hne
  rename_i es clock f2 ro2 hb
  cases hx with
  | ptr hi =>
    rename_i i
    obtain ⟨m', q1, q2, hro⟩ := iter_at h hi hr
    simp only [hro.2, Nat.add_zero]
    rcases q2 with ⟨q2, _⟩ | ⟨b', j, q2, q3, q4⟩
    · cases q2
    · injection q2 with q2; subst q2 q4
      obtain ⟨es', q5, q6, _⟩ := map_at h q3 hb
      have hg1 : (getObj i.g).run P w = .ok (.mapIter (some j.g) since seen last) w := by simp [getObj, Sem.run, q1]
      have hg2 : (getObj j.g).run P w = .ok (.map es' clock) w := Go.MapKept.run_getObj_map q5
      have hsz := (EL.to q6).1
      simp only [Array.length_toList] at hsz
      have hemp : es'.isEmpty = es.isEmpty := by simp [Array.isEmpty, hsz]
      have hall : es'.all (fun e => decide (last ≤ e.born)) = es.toList.all (fun e => decide (last ≤ e.born)) := by
        rw [← Array.all_toList]; exact (EL.all (fun e e' he => by rw [he]) q6).symm
      cases hc : (!seen.isEmpty && !es.isEmpty && es.toList.all (fun e => decide (last ≤ e.born))) with
      | true => rw [hc] at hne; exact absurd rfl hne
      | false =>
        rw [hc, cond_false] at hne
        rw [cond_false]
        have hc' : (!seen.isEmpty && !es'.isEmpty && es'.all (fun e => decide (last ≤ e.born))) = false := by rw [hemp, hall]; exact hc
        have hfil := EL.filter (f := fun e => !seen.contains e.born) (fun e e' he => by rw [he]) q6
        have harr : es'.filter (fun e => !seen.contains e.born) = (es'.toList.filter fun e => !seen.contains e.born).toArray := by
          apply Array.toList_inj.1
          rw [Array.toList_filter]
        generalize hl : (es.toList.filter fun e => !seen.contains e.born) = l at hne hfil ⊢
        generalize hl' : (es'.toList.filter fun e => !seen.contains e.born) = l' at hfil harr
        cases hq : (l.all (fun e => Nat.blt e.born since) && Nat.ble 2 l.length) with
        | false => rw [hq] at hne; exact absurd rfl hne
        | true =>
          rw [cond_true]
          rw [Bool.and_eq_true] at hq
          have hlen := (EL.to hfil).1
          have h2 : 2 ≤ l'.length := by have := Nat.le_of_ble_eq_true hq.2; omega
          have hold : ∀ e ∈ l', e.born < since := by
            have := hq.1
            rw [EL.all (fun e e' he => by rw [he]) hfil] at this
            exact fun e he => Nat.le_of_ble_eq_true (List.all_eq_true.1 this e he)
          have ho : l'.toArray.filter (fun e => decide (e.born < since)) = l'.toArray := by
            apply Array.toList_inj.1
            rw [Array.toList_filter, List.filter_eq_self.2 fun e he => decide_eq_true (hold e he)]
          have hn : l'.toArray.filter (fun e => decide (since ≤ e.born)) = #[] := by
            apply Array.toList_inj.1
            rw [Array.toList_filter, List.filter_eq_nil_iff.2 fun e he => by have := hold e he; simp; omega]
          have hemp2 : l'.toArray.isEmpty = false := by
            simp [Array.isEmpty]
            intro e; rw [e] at h2; simp at h2
          obtain ⟨d, hd⟩ : ∃ d, d = w.tape w.drawn (.mapNext l'.length) % l'.length := ⟨_, rfl⟩
          have hdl : d < l'.length := by rw [hd]; exact Nat.mod_lt _ (by omega)
          have hdl2 : d < l.length := by omega
          have her : ER ρ l[d] l'[d] := (EL.to hfil).2 d _ _ (List.getElem?_eq_getElem hdl2) (List.getElem?_eq_getElem hdl)
          have q1d : w.drew.heap[i.g]? = some (.mapIter (some j.g) since seen last) := q1
          have hso : ∀ o, (setObj i.g o).run P w.drew = .ok () { w.drew with heap := w.drew.heap.setIfInBounds i.g o } := fun o => by simp [setObj, Sem.run, q1d]
          have hforced : (Question.mapNext l'.length).forced = false := by
            simp only [Question.forced, decide_eq_false_iff_not]; omega
          refine ⟨_, List.mem_map.2 ⟨l[d], List.getElem_mem hdl2, rfl⟩, .tuple #[.bool true, l'[d].key, l'[d].val], { w.drew with heap := w.drew.heap.setIfInBounds i.g (.mapIter (some j.g) since (seen.push l'[d].born) clock) }, ?_, ?_, VR.mkTuple (AR.push (AR.push (AR.one (.bool true)) her.1) her.2.1)⟩
          · unfold Instr.next
            simp only [Sem.run_bind, hg1, Result.andThen, hg2]
            rw [if_neg (by rw [show (!seen.isEmpty && !es'.isEmpty && es'.all fun x => decide (x.born ≥ last)) = false from hc']; decide)]
            rw [harr, hn, ho, hemp2]
            have hcand : ((if false = true then #[none] else #[]) ++ (l'.toArray ++ #[]).map some : Array (Option MapEntry)) = (l'.map some).toArray := by simp
            rw [hcand]
            have hsize : ((l'.map some).toArray : Array (Option MapEntry)).size = l'.length := by simp
            have hcut : (Question.mapNext l'.length).cut (w.tape w.drawn (.mapNext l'.length)) = d := by rw [hd]; rfl
            have hch : (choose (Question.mapNext l'.length)).run P w = .ok d w.drew := by
              rw [run_choose_drew, hforced, hcut]
              rfl
            have hget : ((l'.map some).toArray : Array (Option MapEntry))[d]? = some (some l'[d]) := by simp [hdl]
            rw [hsize]
            simp only [Sem.run_bind, hch, Result.andThen, hget, hso]
            rfl
          · rw [her.2.2]
            exact h.drawn.change hr hi hro.1 (.miter hro (.inr ⟨b, j, rfl, q3, rfl⟩) _ _ _) rfl rfl rfl (by simp) (Go.MapKept.heap_set q1d).1 (Go.MapKept.heap_set q1d).2
/-- a walk over a map, whatever entry is next -/
def NextK (t : Operand → Value) (o : Oper) (A : AW) (K : Value → AW → Prop) : Prop := okOp o = true ∧ ∃ x, o.op = .next x false ∧ nextAll (t x) A ≠ [] ∧ ∀ p ∈ nextAll (t x) A, K p.1 p.2
/-- an operation that changes memory, or calls -/
def stepW (P : Program) (B : Nat) (w0 : Base) (t : Array Value) (o : Oper) (A : AW) (K : Value → AW → Prop) : Prop :=
  glOp w0.gl o = true ∧ match opA P (ev t) o A with
  | some (.val v, A') => K v A'
  | some (.skip, A') => K undef A'
  | some (.enter f args, A') => CallS P B w0 f args A' K
  | some (.round b tmps a c, A') => RoundW P B w0 b tmps a c A' K
  | none => NextK (ev t) o A K
/-- .. and one that does neither, or makes a block -/
def quietW (P : Program) (gl : Nat → Bool) (t : Array Value) (o : Oper) (A : AW) (K : Value → AW → Prop) : Prop :=
  glOp gl o = true ∧ match quietA P (ev t) A o with
  | some (.val v) => K v A
  | some (.ghost c e n) => A.room = true ∧ dstOk t o.dst = true ∧ K (ghostV A.next n) (A.add ⟨.cells c e (0, 0), false, false⟩)
  | none => False
def loudB (o : Oper) : Bool := match o.op with
  | .load _ _ | .alloc _ | .box _ _ | .buildSlice _ _ _ | .makeSlice _ _ _ => false
  | .slice _ _ _ _ none => false
  | .call ⟨.builtin .len, _, _⟩ | .call ⟨.builtin .min, _, _⟩ | .call ⟨.builtin .max, _, _⟩ | .call ⟨.builtin .cap, _, _⟩ => false
  | .convert src _ _ => Nat.beq src 9
  | .store _ _ _ | .call _ | .makeMap _ _ | .mapUpdate _ _ _ _ | .lookup _ _ _ _ | .range _ _ | .next _ _ | .entry _ | .insert _ _ _ _ | .slice _ _ _ _ _ | .makeChan _ _ | .mapEntry _ _ _ | .entryStore _ _ _ _ => true
  | _ => false
/-- a value is sent to a channel with room, or received from one that holds some -/
def commA (P : Program) (t : Operand → Value) (o : Oper) (A : AW) : Option (Value × AW) := match o.op with
  | .send x y => match t x with
    | .chan (some b) => match A.heap.get b with
      | some ⟨.chan cap buf false 0 0 false, false, false⟩ => bif Nat.blt buf.size cap then some (undef, A.put b (some ⟨.chan cap (buf.push (t y)) false 0 0 false, false, false⟩)) else none
      | _ => none
    | _ => none
  | .recv ty x false => match P.underlying ty, t x with
    | some (.chan _ e), .chan (some b) => match P.info? e with
      | some ie => match ie.zero with
        | some _ => match A.heap.get b with
          | some ⟨.chan cap buf false 0 0 false, false, false⟩ => bif Nat.blt 0 buf.size then some (buf.getD 0 undef, A.put b (some ⟨.chan cap (buf.extract 1 buf.size) false 0 0 false, false, false⟩)) else none
          | _ => none
        | none => none
      | none => none
    | _, _ => none
  | _ => none
def commB (o : Oper) : Bool := match o.op with
  | .send _ _ | .recv _ _ _ => true
  | _ => false
/-- the operations of a region, in the text's order -/
def opsW (P : Program) (B : Nat) (w0 : Base) (ops : Array Oper) (K : Array Value → AW → Prop) : List Nat → Array Value → AW → Prop
  | [], t, A => K t A
  | i :: rest, t, A => match ops[i]? with
    | none => opsW P B w0 ops K rest t A
    | some o => bif Region.wanted o (yielded ops t) then
        (bif commB o then glOp w0.gl o = true ∧ okOp o = true ∧ ∃ v A', commA P (ev t) o A = some (v, A') ∧ opsW P B w0 ops K rest (putA t o.dst v) A'
        else bif loudB o then stepW P B w0 t o A fun v A' => opsW P B w0 ops K rest (putA t o.dst v) A'
        else quietW P w0.gl t o A fun v A' => opsW P B w0 ops K rest (putA t o.dst v) A')
      else opsW P B w0 ops K rest (putA t o.dst undef) A
def holds (t : Array Value) (d : Option Tmp) (v : Value) : Prop := ∀ i x, d = some i → t[i]? = some x → x = v
/-- a region's plan -/
inductive PS where
  | quiet (i : Nat)
  | loud (i : Nat) (re : List Nat)
  | pair (i j : Nat) (ri rj : List Nat)
/-- what was read is read again -/
def againP (P : Program) (ops : Array Oper) (t : Array Value) (A : AW) (re : List Nat) : Prop := ∀ j ∈ re, ∀ o, ops[j]? = some o → Region.wanted o (yielded ops t) = true →
  ∃ v, quietA P (ev t) A o = some (.val v) ∧ holds t o.dst v
/-- a loud operation -/
def loudW (P : Program) (B : Nat) (w0 : Base) (ops : Array Oper) (i : Nat) (re : List Nat) (K : Array Value → AW → Prop) (t : Array Value) (A : AW) : Prop := match ops[i]? with
  | none => False
  | some o => bif Region.wanted o (yielded ops t) then stepW P B w0 t o A fun v A' => againP P ops (putA t o.dst v) A' re ∧ K (putA t o.dst v) A'
      else K (putA t o.dst undef) A
def planW (P : Program) (B : Nat) (w0 : Base) (ops : Array Oper) (K : Array Value → AW → Prop) : List PS → Array Value → AW → Prop
  | [], t, A => K t A
  | .quiet i :: s, t, A => match ops[i]? with
    | none => False
    | some o => bif Region.wanted o (yielded ops t) then quietW P w0.gl t o A fun v A' => planW P B w0 ops K s (putA t o.dst v) A'
      else planW P B w0 ops K s (putA t o.dst undef) A
  | .loud i re :: s, t, A => loudW P B w0 ops i re (planW P B w0 ops K s) t A
  | .pair i j ri rj :: s, t, A => loudW P B w0 ops i ri (loudW P B w0 ops j rj (planW P B w0 ops K s)) t A ∧ loudW P B w0 ops j rj (loudW P B w0 ops i ri (planW P B w0 ops K s)) t A

/-- .. and when it may be gone by -/
def looks (ops : Array Oper) (k : Nat) : List Tmp := match ops[k]? with
  | some o => o.looksAt ops
  | none => []
def dstAt (ops : Array Oper) (k : Nat) : Option Tmp := match ops[k]? with
  | some o => o.dst
  | none => none
def memN (l : List Tmp) (d : Tmp) : Bool := l.any fun x => Nat.beq x d
def namesB (ops : Array Oper) (k : Nat) (d : Tmp) : Bool := memN (looks ops k) d || (match dstAt ops k with | some x => Nat.beq x d | none => false)
def ancOf (anc : Nat → Nat) : List Edge → Nat
  | [] => 0
  | e :: es => bif Region.binds .any e then (ancOf anc es ||| 2 ^ e.on) ||| anc e.on else ancOf anc es
def ancOk (ops : Array Oper) (anc : Nat → Nat) : Bool := (List.range ops.size).all fun i => match ops[i]? with
  | some o => Nat.beq (anc i) (ancOf anc o.after.toList) && o.after.toList.all fun e => !Region.binds .any e || Nat.blt e.on i
  | none => true
def depsB (o : Oper) (E : Nat) : Bool := o.after.toList.all fun e => !Region.binds .any e || E.testBit e.on
def quietOk (ops : Array Oper) (anc : Nat → Nat) (E : Nat) (i : Nat) : Bool := match ops[i]? with
  | none => false
  | some o => !E.testBit i && depsB o E && (match o.dst with
      | none => true
      | some d => !memN (o.looksAt ops) d && (List.range ops.size).all fun k => !E.testBit k || !namesB ops k d) &&
    (List.range ops.size).all fun k => !E.testBit k || (anc i).testBit k || match dstAt ops k with
      | none => true
      | some d => !memN (o.looksAt ops) d
def loudOk (ops : Array Oper) (anc : Nat → Nat) (E : Nat) (i : Nat) (re : List Nat) (more : Nat) : Bool := match ops[i]? with
  | none => false
  | some o => !E.testBit i && depsB o E && (List.range ops.size).all fun k => bif E.testBit k then
      (anc i).testBit k || ((match dstAt ops k with | none => true | some d => !memN (o.looksAt ops) d) && (match o.dst with | none => true | some d => !namesB ops k d) &&
        (match ops[k]? with | some q => !memK q || memN re k | none => true))
    else Nat.beq k i || Nat.beq k more || (anc k).testBit i
def okPlan (ops : Array Oper) (anc : Nat → Nat) : List PS → Nat → Bool
  | [], E => (List.range ops.size).all fun k => E.testBit k
  | .quiet i :: s, E => quietOk ops anc E i && okPlan ops anc s (E ||| 2 ^ i)
  | .loud i re :: s, E => loudOk ops anc E i re i && okPlan ops anc s (E ||| 2 ^ i)
  | .pair i j ri rj :: s, E => (!Nat.beq i j && loudOk ops anc E i ri j && loudOk ops anc E j rj i) && (loudOk ops anc (E ||| 2 ^ i) j rj j && loudOk ops anc (E ||| 2 ^ j) i ri i) && okPlan ops anc s (E ||| 2 ^ i ||| 2 ^ j) && okPlan ops anc s (E ||| 2 ^ j ||| 2 ^ i)

theorem memN_iff {l : List Tmp} {d : Tmp} : memN l d = true ↔ d ∈ l := by
  unfold memN
  rw [List.any_eq_true]
  constructor
  · rintro ⟨x, h1, h2⟩; rw [← Tr.beq_iff.1 h2]; exact h1
  · intro h; exact ⟨d, h, Tr.beq_iff.2 rfl⟩
theorem testBit_or_pow (E i k : Nat) : (E ||| 2 ^ i).testBit k = (E.testBit k || decide (i = k)) := by
  rw [Nat.testBit_or, Nat.testBit_two_pow]

section
variable {P : Program} {B : Nat}
theorem eval_ev (t : Array Value) (ds : List Deferred) : (⟨t, ds⟩ : Act).eval = ev t := by
  funext x; cases x <;> rfl
theorem put_act (t : Array Value) (ds : List Deferred) (d : Option Tmp) (v : Value) : (⟨t, ds⟩ : Act).put d v = ⟨putA t d v, ds⟩ := by cases d <;> rfl
theorem putA_rel {ρ : Ren} {t t' : Array Value} (h : AR ρ t t') (d : Option Tmp) {v v' : Value} (hv : VR ρ v v') : AR ρ (putA t d v) (putA t' d v') := by
  cases d with
  | none => exact h
  | some d => exact h.set d hv
theorem undef_rel (ρ : Ren) : VR ρ undef undef := VR.mkTuple (AR.empty ρ)
theorem yielded_rel {ρ : Ren} {t t' : Array Value} (h : AR ρ t t') (ops : Array Oper) : yielded ops t = yielded ops t' := by
  funext j
  unfold yielded
  cases hd : (ops[j]?).bind (·.dst) with
  | none => rfl
  | some d =>
    simp only [Option.bind_some]
    rcases h.get? d with ⟨h1, h2⟩ | ⟨v, v', h1, h2, h3⟩
    · rw [h1, h2]
    · rw [h1, h2]; cases h3 <;> rfl
theorem glAll {gl : Nat → Bool} {o : Oper} (h : glOp gl o = true) {x : Operand} (hx : x ∈ o.op.operands) : glX gl x = true := List.all_eq_true.1 h x (Array.mem_toList_iff.2 hx)
theorem SR.rebase {w0 : Base} {ρ : Ren} {A : AW} {w : World} (h : SR P B w0 ρ A w) (Γ : Nat → ABk → Prop) (hoff : ∀ b x, Γ b x → ρ b = none ∧ A.heap.get b = some x) : SR P B (w0.but Γ) ρ A w :=
  ⟨h.below, h.low, h.dom, h.room, h.lt, hoff, h.blk, h.apart, h.glo, h.marks⟩
theorem semAt_run {r : Option Nat} {f : Operand → Value} {o : Oper} {n : Next} {w w' : World} (h : (execOp f o).run P w = .ok n w') (hn : ∀ d, n ≠ .defer d) : (o.semAt r f).run P w = .ok n w' := by
  rw [Oper.semAt_eq r f o ?_]
  · exact h
  · intro c hc
    unfold execOp at h
    rw [hc] at h
    simp only [Sem.run_bind] at h
    cases hr : (resolve f c o.type).run P w with
    | ok d w2 =>
      rw [hr] at h
      simp only [Result.andThen] at h
      injection h with h
      exact hn d h.symm
    | halt x w2 =>
      rw [hr] at h
      cases h
theorem callsIn_at (w0 : Base) {m : Nat} {f : FuncId} {args : Array Value} {w : World} {R : Ending → World → Prop} (h : Calls P f args w R) : CallsIn w0.F m P f args w R := callsIn_wide.2 h
theorem roundIn_at (w0 : Base) {l : Nat} {f : FuncId} {tmps : Array Value} {a c : Code} {w : World} {R : Ending → World → Prop} (h : RoundIn Fence.wide 0 P l f tmps a c w R) : RoundIn w0.F (0 - 1) P l f tmps a c w R := h
theorem step_sound (G : Good P) {w0 : Base} {Γ : Nat → ABk → Prop} {ρ : Ren} {A : AW} {w : World} (h : SR P B (w0.but Γ) ρ A w) {t t' : Array Value} (ds : List Deferred) {o : Oper} (ht : okOp o = true → ∀ x ∈ o.op.operands, VR ρ (ev t x) (ev t' x)) {J : Value → AW → Prop} (ha : stepW P B w0 t o A J)
    {K : Act → World → Prop} {Q : Exit → Act → World → Prop} (hK : ∀ ρ' v v' A' w', J v A' → ρ.le ρ' → SR P B (w0.but Γ) ρ' A' w' → VR ρ' v v' → K ⟨putA t' o.dst v', ds⟩ w') : o.wpIn w0.F 0 P ⟨t', ds⟩ w K Q := by
  have ha := ha.2
  cases hq : opA P (ev t) o A with
  | none =>
    rw [hq] at ha
    obtain ⟨hk, x, hop, hne, hall⟩ := ha
    have hx := ht hk x (by rw [hop]; simp [Op.operands])
    obtain ⟨p, hp, v', w', g1, g2, g3⟩ := nextAll_sound h hx o.type hne
    have g0 : (execOp (ev t') o).run P w = .ok (.value v') w' := by
      obtain ⟨dst, op, type, pos, after, guard⟩ := o
      dsimp only at hop g1
      subst hop
      show (do pure (Next.value (← Instr.next (ev t' x) false type)) : Sem Next).run P w = _
      simp only [Bind.bind]
      rw [run_bind P _ _ w w' v' g1]
      rfl
    refine ⟨fun _ _ => trivial, ?_⟩
    rw [semAt_run (by rw [eval_ev]; exact g0) (fun d hd => by cases hd), Oper.uponIn_value, put_act]
    exact hK ρ p.1 v' p.2 w' (hall p hp) (Ren.le_refl _) g2 g3
  | some x =>
    obtain ⟨n, A1⟩ := x
    rw [hq] at ha
    obtain ⟨ρ', n', w', g1, g2, g3, g4⟩ := opA_sound (t' := ev t') G h ht hq
    refine ⟨fun _ _ => trivial, ?_⟩
    rw [semAt_run (by rw [eval_ev]; exact g1) (fun d hd => by subst hd; cases n <;> exact g4.elim)]
    cases n with
    | val v1 =>
      dsimp only at ha
      cases n' with
      | value v' =>
        rw [Oper.uponIn_value, put_act]
        exact hK ρ' v1 v' A1 w' ha g2 g3 g4
      | _ => exact g4.elim
    | skip =>
      dsimp only at ha
      cases n' with
      | skip =>
        rw [Oper.uponIn_skip, put_act]
        exact hK ρ' undef undef A1 w' ha g2 g3 (undef_rel ρ')
      | _ => exact g4.elim
    | enter f args =>
      dsimp only at ha
      cases n' with
      | enter f' args' =>
        obtain ⟨rfl, g5⟩ := g4
        rw [Oper.uponIn_enter]
        refine ⟨(fun h => by cases h), callsIn_at w0 ((ha Γ w0.mks ρ' w' args' g3 g5).mono ?_)⟩
        rintro e w2 ⟨ρ2, v, v', A2, rfl, q0, q1, q2, q3⟩
        show K ((⟨t', ds⟩ : Act).put o.dst v') w2
        rw [put_act]
        exact hK ρ2 v v' A2 w2 q0 (Ren.le_trans g2 q1) q2 q3
      | _ => exact g4.elim
    | round b tmps a c =>
      dsimp only at ha
      cases n' with
      | round l f tmps' a' c' =>
        obtain ⟨⟨i, g5, rfl⟩, g6, rfl, rfl⟩ := g4
        rw [Oper.uponIn_round]
        refine ⟨(fun h => by cases h), roundIn_at w0 ((ha Γ w0.mks ρ' w' tmps' i f g3 g5 g6).mono ?_)⟩
        rintro e w2 ⟨ρ2, v, v', A2, rfl, q0, q1, q2, q3⟩
        show K ((⟨t', ds⟩ : Act).put o.dst v') w2
        rw [put_act]
        exact hK ρ2 v v' A2 w2 q0 (Ren.le_trans g2 q1) q2 q3
      | _ => exact g4.elim
theorem evs_ok {gl : Nat → Bool} {ρ : Ren} (hG : GlR gl ρ) {t t' : Array Value} (h : AR ρ t t') {o : Oper} (hg : glOp gl o = true) (hk : okOp o = true) : ∀ x ∈ o.op.operands, VR ρ (ev t x) (ev t' x) := fun _ hx => ev_rel h hG (okAll hk hx) (glAll hg hx)
end
end Go.Proofs.YtfeppmhcpfccfaaGreatDoor.Sim
/- A verified evaluator, part V: sending to a channel, receiving from one, among a region's operations. Of no program. -/
namespace Go.Proofs.YtfeppmhcpfccfaaGreatDoor.Sim
open Go Go.RowKit

/-- the machine of one goroutine gets past a communication -/
def CommTo (P : Program) (F : Fence) (o : Oper) (a : Act) (w : World) (v : Value) (w' : World) : Prop :=
  (∀ f, o.about P w a.eval = some f → F.fn f) ∧ ∀ (fr : Frame) (cs : List Frame), stepG P true (Conc.G fr cs) w = stepG.apply P true fr cs none (o.semAt F.round a.eval) w → step P (lone fr cs w) = .next (lone (fr.finish v) cs w')
/-- a region's operations, some of them communications -/
def wpC (F : Fence) (n : Nat) (P : Program) (ops : Array Oper) (Q : Exit → Act → World → Prop) : List Nat → Act → World → Prop
  | [], a, w => Q .normal a w
  | i :: rest, a, w =>
    match ops[i]? with
    | none => wpC F n P ops Q rest a w
    | some o =>
      if Region.wanted o (yielded ops a.tmps) then o.wpIn F n P a w (wpC F n P ops Q rest) Q ∨ ∃ v w', CommTo P F o a w v w' ∧ wpC F n P ops Q rest (a.put o.dst v) w'
      else (∀ f, o.about P w a.eval = some f → F.fn f) ∧ wpC F n P ops Q rest (a.put o.dst undef) w
section
variable {F : Fence} {n : Nat} {P : Program} {ops : Array Oper} {Q : Exit → Act → World → Prop}
/-- one operation that the walks know: it goes on, or ends all -/
theorem op_past {i : Nat} {rest : List Nat} {o : Oper} {a : Act} {w : World} {next : Act → World → Prop} (ho : ops[i]? = some o) (hw : Region.wanted o (yielded ops a.tmps) = true) (h : o.wpIn F n P a w next Q)
    {b : Frame} {k : List Item} {cs : List Frame} (hro : b.roundOf = F.round) (hb : F.fn b.fn) (hr : F.room (cs.length + 1 + n)) :
    (∃ a' w', next a' w' ∧ StepsIn (Machine.fenced P F) P (lone (b.atR a (.inRegion ops (i :: rest) :: k)) cs w) (lone (b.atR a' (.inRegion ops rest :: k)) cs w')) ∨
    ∃ e a' w', Q e a' w' ∧ ArrivesIn (Machine.fenced P F) P (lone (b.atR a (.inRegion ops (i :: rest) :: k)) cs w) b k cs e a' w' := by
  obtain ⟨hab, h⟩ := h
  have h0 : (lone (b.atR a (.inRegion ops (i :: rest) :: k)) cs w).fenced P F := fenced_oper hb hr ho hab
  have hg := stepGR_op (P := P) (b := b) (k := k) (cs := cs) (w := w) (rest := rest) ho hw
  rw [hro] at hg
  have hfin : ∀ v, (b.atR a (.inRegion ops (i :: rest) :: k)).finish v = b.atR (a.put o.dst v) (.inRegion ops rest :: k) := by
    intro v; rw [Frame.finish_atR, ho]; rfl
  have go : ∀ {fr : Frame} {cs' : List Frame} {w' : World}, (stepG.apply P true (b.atR a (.inRegion ops (i :: rest) :: k)) cs none (o.semAt F.round a.eval) w).bare = .go { frame := fr, callers := cs', status := .running, dying := none } w' →
      step P (lone (b.atR a (.inRegion ops (i :: rest) :: k)) cs w) = .next (lone fr cs' w') := fun he => step_lone_go (by rw [hg]; exact he)
  simp only [Oper.uponIn] at h
  split at h
  · rename_i v w' hv
    exact .inl ⟨_, w', h, .one h0 (go (by rw [← hfin]; simp [stepG.apply, hv]))⟩
  · rename_i w' hv
    exact .inl ⟨_, w', h, .one h0 (go (by rw [← hfin]; simp [stepG.apply, hv]))⟩
  · rename_i d w' hv
    refine .inl ⟨_, w', h, .one h0 (go ?_)⟩
    have e := Frame.finish_atR b { a with defers := d :: a.defers } ops i rest k undef
    rw [ho] at e
    simp only [stepG.apply, Sem.runT_eq, hv, GStep.bare_after]
    exact congrArg (fun fr => GStep.go { frame := fr, callers := cs, status := .running, dying := none } w') e
  · rename_i f args w' hv
    obtain ⟨hn, hF, h⟩ := h
    have hroom : F.room ((b.atR a (.inRegion ops (i :: rest) :: k) :: cs).length + 1 + (n - 1)) := Fence.room_enter hr hn
    obtain ⟨e, w2, fr, hR, hst, hfn, hlv⟩ := h (b.atR a (.inRegion ops (i :: rest) :: k) :: cs) hroom
    have hin := go (fr := Frame.enter P f args .normal) (cs' := b.atR a (.inRegion ops (i :: rest) :: k) :: cs) (w' := w') (by simp [stepG.apply, hv, Frame.atR])
    cases e with
    | returned v =>
      have hl : (lone fr (b.atR a (.inRegion ops (i :: rest) :: k) :: cs) w2).fenced P F := fenced_leaving (hfn ▸ hF) hroom hlv
      refine .inl ⟨_, w2, hR, .head h0 hin (StepsIn.trans hst (.one hl ?_))⟩
      rw [← hfin]; exact step_leave_returned hlv
    | panicked chain =>
      have hl : (lone fr (b.atR a (.inRegion ops (i :: rest) :: k) :: cs) w2).fenced P F := fenced_leaving (hfn ▸ hF) hroom hlv
      refine .inr ⟨.panic chain, a, w2, hR, .inRegion ops (i :: rest) :: k, .head h0 hin (StepsIn.trans hst (.one hl ?_))⟩
      rw [← Frame.raise_atR]; exact step_leave_panicked hlv
    | outgrown =>
      obtain ⟨a0, w3, hq⟩ := hR
      exact .inr ⟨.outgrown, a0, w3, hq, .inr (Outgrown.of_steps (.one hin) hst)⟩
  · rename_i row args w' hv
    obtain ⟨hn, h⟩ := h
    obtain ⟨v, w2, hR, hst⟩ := h (b.atR a (.inRegion ops (i :: rest) :: k)) cs (Fence.room_enter hr hn)
    have hin := go (fr := Frame.ofRow P row args .normal) (cs' := b.atR a (.inRegion ops (i :: rest) :: k) :: cs) (w' := w') (by simp [stepG.apply, hv, Frame.atR])
    refine .inl ⟨_, w2, hR, .head h0 hin ?_⟩
    rw [← hfin]; exact hst
  · rename_i l f tmps assign body w' hv
    obtain ⟨hn, _, h⟩ := h
    obtain ⟨e, w2, hR, hst⟩ := h (b.atR a (.inRegion ops (i :: rest) :: k)) cs (Fence.room_enter hr hn)
    have hin := go (fr := Frame.round l f tmps assign body .normal) (cs' := b.atR a (.inRegion ops (i :: rest) :: k) :: cs) (w' := w') (by simp [stepG.apply, hv, Frame.atR])
    cases e with
    | returned v =>
      refine .inl ⟨_, w2, hR, .head h0 hin ?_⟩
      rw [← hfin]; exact hst
    | panicked chain =>
      refine .inr ⟨.panic chain, a, w2, hR, .inRegion ops (i :: rest) :: k, .head h0 hin ?_⟩
      rw [← Frame.raise_atR]; exact hst
    | outgrown =>
      obtain ⟨a0, w3, hq⟩ := hR
      exact .inr ⟨.outgrown, a0, w3, hq, .inr (Outgrown.of_steps (.one hin) hst)⟩
  · rename_i v w' hv
    refine .inr ⟨_, a, w', h, .inRegion ops (i :: rest) :: k, .one h0 (go ?_)⟩
    rw [← Frame.raise_atR]; simp [stepG.apply, hv]
  · exact h.elim
theorem wp_opsC : ∀ (l : List Nat) (a : Act) (w : World), wpC F n P ops Q l a w → ∀ (b : Frame) (k : List Item) (cs : List Frame), b.roundOf = F.round → F.fn b.fn → F.room (cs.length + 1 + n) →
    ∃ e a' w', Q e a' w' ∧ ArrivesIn (Machine.fenced P F) P (lone (b.atR a (.inRegion ops l :: k)) cs w) b k cs e a' w'
  | [], a, w, h, b, k, cs, _, hb, hr => ⟨.normal, a, w, h, .one (fenced_calm hb hr rfl) stepR_region_end⟩
  | i :: rest, a, w, h, b, k, cs, hro, hb, hr => by
    simp only [wpC] at h
    have skip : ∀ (d : Option Tmp), (ops[i]?).bind (·.dst) = d → ((ops[i]?).map (Region.wanted · (yielded ops a.tmps))).getD false = false → (lone (b.atR a (.inRegion ops (i :: rest) :: k)) cs w).fenced P F → wpC F n P ops Q rest (a.put d undef) w →
        ∃ e a' w', Q e a' w' ∧ ArrivesIn (Machine.fenced P F) P (lone (b.atR a (.inRegion ops (i :: rest) :: k)) cs w) b k cs e a' w' := by
      intro d hd hn2 h0 h
      obtain ⟨e, a', w', hq, harr⟩ := wp_opsC rest _ w h b k cs hro hb hr
      have hs := stepR_op_skip (P := P) (b := b) (a := a) (k := k) (cs := cs) (w := w) (ops := ops) (i := i) (rest := rest) hn2
      rw [hd] at hs
      exact ⟨e, a', w', hq, .of_steps (.one h0 hs) harr⟩
    cases ho : ops[i]? with
    | none =>
      rw [ho] at h
      exact skip none (by rw [ho]; rfl) (by rw [ho]; rfl) (fenced_noOper hb hr ho) h
    | some o =>
      rw [ho] at h
      dsimp only at h
      cases hw : Region.wanted o (yielded ops a.tmps) with
      | false =>
        rw [hw, if_neg (by decide)] at h
        exact skip o.dst (by rw [ho]; rfl) (by rw [ho]; exact hw) (fenced_oper hb hr ho h.1) h.2
      | true =>
        rw [hw, if_pos rfl] at h
        rcases h with h | ⟨v, w', ⟨hab, hstep⟩, h⟩
        · rcases op_past (rest := rest) ho hw h hro hb hr (k := k) (cs := cs) with ⟨a', w', h1, h2⟩ | h1
          · obtain ⟨e, a2, w2, hq, harr⟩ := wp_opsC rest a' w' h1 b k cs hro hb hr
            exact ⟨e, a2, w2, hq, .of_steps h2 harr⟩
          · exact h1
        · obtain ⟨e, a2, w2, hq, harr⟩ := wp_opsC rest _ w' h b k cs hro hb hr
          have hg := stepGR_op (P := P) (b := b) (k := k) (cs := cs) (w := w) (rest := rest) ho hw
          rw [hro] at hg
          have hs := hstep _ cs hg
          rw [Frame.finish_atR, ho] at hs
          exact ⟨e, a2, w2, hq, .of_steps (.one (fenced_oper hb hr ho hab) hs) harr⟩
theorem wpC_region {id : Nat} {a : Act} {w : World} (h : wpC F n P ops Q (List.range ops.size) a w) : (Code.region id ops false).wpIn F n P Q a w :=
  fun b k cs hro hb hr => let ⟨e, a', w', q, r⟩ := wp_opsC _ a w h b k cs hro hb hr; ⟨e, a', w', q, .of_steps (.one (fenced_calm hb hr rfl) stepR_region) r⟩
end
section
variable {P : Program} {F : Fence} {o : Oper} {a : Act} {w : World}
theorem about_comm (h : (∃ x y, o.op = .send x y) ∨ ∃ t x q, o.op = .recv t x q) : o.about P w a.eval = none := by
  unfold Oper.about
  rcases h with ⟨x, y, h⟩ | ⟨t, x, q, h⟩ <;> rw [h]
theorem comm_apply {r : Option Nat} {cases : Array CommCase} {sh : CommShape} {fr : Frame} {cs : List Frame} (hs : (o.semAt r a.eval).run P w = .ok (.comm cases true sh) w) (hg : stepG P true (Conc.G fr cs) w = stepG.apply P true fr cs none (o.semAt r a.eval) w) :
    ∃ es, stepG P true (Conc.G fr cs) w = .comm (Conc.G fr cs) cases true sh w es := by
  have hb : (stepG P true (Conc.G fr cs) w).bare = .comm (Conc.G fr cs) cases true sh w := by
    rw [hg]
    simp only [stepG.apply, Sem.runT_eq, hs, GStep.bare_after]
    rfl
  generalize stepG P true (Conc.G fr cs) w = s at hb
  cases s <;> simp [GStep.bare] at hb
  obtain ⟨rfl, rfl, rfl, rfl, rfl⟩ := hb
  exact ⟨_, rfl⟩
theorem comm_send {x y : Operand} (hop : o.op = .send x y) {c cap s r : Nat} {buf : Array Value} {tm : Bool} (hx : a.eval x = .chan (some c)) (hc : w.heap[c]? = some (.chan cap buf false s r tm)) (hroom : buf.size < cap) :
    CommTo P F o a w undef (w.setChan c cap (buf.push (a.eval y)) false (s + 1) r tm) := by
  refine ⟨fun f hf => (by rw [about_comm (.inl ⟨x, y, hop⟩)] at hf; cases hf), fun fr cs hg => ?_⟩
  have hs : (o.semAt F.round a.eval).run P w = .ok (.comm #[Conc.scase c (a.eval y) (.tuple #[])] true .send) w := by
    rw [Oper.semAt_eq _ _ _ (fun d hd => by rw [hop] at hd; cases hd)]
    obtain ⟨dst, op, type, pos, after, guard⟩ := o
    dsimp only at hop
    subst hop
    show (pure (.comm #[{ chan := a.eval x, send := some (a.eval y), zero := .tuple #[] }] true .send) : Sem Next).run P w = _
    rw [hx]
    rfl
  obtain ⟨es, he⟩ := comm_apply hs hg
  exact Conc.step_lone_send_room he hc hroom
theorem comm_recv {ty : TypeId} {x : Operand} (hop : o.op = .recv ty x false) {d : ChanDir} {e : TypeId} (hu : P.underlying ty = some (.chan d e)) {ie : TypeInfo} (hi : P.info? e = some ie) {z : Value} (hz : ie.zero = some z) {c cap s r : Nat} {buf : Array Value} {tm : Bool} (hx : a.eval x = .chan (some c)) (hc : w.heap[c]? = some (.chan cap buf false s r tm)) (hsome : 0 < buf.size) :
    CommTo P F o a w (buf.getD 0 undef) (w.setChan c cap (buf.extract 1 buf.size) false s (r + 1) tm) := by
  refine ⟨fun f hf => (by rw [about_comm (.inr ⟨ty, x, false, hop⟩)] at hf; cases hf), fun fr cs hg => ?_⟩
  have hs : (o.semAt F.round a.eval).run P w = .ok (.comm #[Conc.rcase c z] true (.recv false)) w := by
    rw [Oper.semAt_eq _ _ _ (fun d hd => by rw [hop] at hd; cases hd)]
    obtain ⟨dst, op, type, pos, after, guard⟩ := o
    dsimp only at hop
    subst hop
    have hzr : (zeroValue e).run P w = .ok z w := by simp [zeroValue, typeInfo, hi, hz, Result.andThen]
    unfold execOp
    simp [run_underlying hu, hzr, Result.andThen, hx, Conc.rcase]
  obtain ⟨es, he⟩ := comm_apply hs hg
  exact Conc.step_lone_recv_buf false he hc hsome
end
end Go.Proofs.YtfeppmhcpfccfaaGreatDoor.Sim
/- A verified evaluator, part P: a region whose operations the world does in any order. Of no program. -/
namespace Go.Proofs.YtfeppmhcpfccfaaGreatDoor.Sim
open Go Go.RowKit

theorem freeQ_congr {P : Program} {t t2 : Operand → Value} (o : Oper) (h : ∀ x ∈ o.op.operands, t x = t2 x) : freeQ P t o = freeQ P t2 o := by
  unfold freeQ
  have h1 : o.op.operands.toList.all (fun x => free (t x)) = o.op.operands.toList.all (fun x => free (t2 x)) := by
    have : ∀ l : List Operand, (∀ x ∈ l, t x = t2 x) → l.all (fun x => free (t x)) = l.all (fun x => free (t2 x)) := by
      intro l
      induction l with
      | nil => intro _; rfl
      | cons a l ih =>
        intro hl
        simp only [List.all_cons]
        rw [hl a List.mem_cons_self, ih fun x hx => hl x (List.mem_cons_of_mem _ hx)]
    exact this _ fun x hx => h x (Array.mem_toList_iff.1 hx)
  rw [h1]
  cases hs : isSel o.op with
  | true => simp
  | false =>
    have hsel : ∀ cs b, o.op ≠ .select cs b := by
      intro cs b he
      rw [he] at hs; cases hs
    rw [execOp_congr o hsel h]
theorem evs_congr {t t2 : Operand → Value} {xs : Array Operand} (h : ∀ x ∈ xs, t x = t2 x) : evs t xs = evs t2 xs := by
  unfold evs
  congr 1
  exact List.map_congr_left fun x hx => h x (Array.mem_toList_iff.1 hx)
theorem partsA_congr {t t2 : Operand → Value} {ps : Array (Nat × Operand)} (h : ∀ p ∈ ps.toList, t p.2 = t2 p.2) : partsA t ps = partsA t2 ps :=
  List.map_congr_left fun p hp => by rw [h p hp]
theorem optmap_congr {t t2 : Operand → Value} {x : Option Operand} (h : ∀ y, x = some y → t y = t2 y) : x.map t = x.map t2 := by
  cases x with
  | none => rfl
  | some y => simp [h y rfl]
theorem opQ_congr {P : Program} {t t2 : Operand → Value} (o : Oper) (h : ∀ x ∈ o.op.operands, t x = t2 x) : opQ P t o = opQ P t2 o := by
  have fr := freeQ_congr (P := P) o h
  obtain ⟨dst, op, type, pos, after, guard⟩ := o
  unfold opQ
  replace h : ∀ x ∈ op.operands, t x = t2 x := h
  cases op with
  | build ty ps =>
    dsimp only
    rw [partsA_congr fun p hp => h p.2 (by simp only [Op.operands]; exact List.mem_toArray.2 (List.mem_map.2 ⟨p, hp, rfl⟩))]
  | makeFunc fn f c =>
    dsimp only
    rw [evs_congr (xs := f) fun x hx => h x (by simp only [Op.operands]; exact Array.mem_append.2 (.inl hx)), evs_congr (xs := c) fun x hx => h x (by simp only [Op.operands]; exact Array.mem_append.2 (.inr hx))]
  | slice ty x lo hi mx =>
    cases mx with
    | some m => dsimp only; exact fr
    | none =>
      dsimp only
      rw [h x (by simp [Op.operands]), fr]
  | call c =>
    obtain ⟨callee, args, argTypes⟩ := c
    cases callee with
    | builtin b =>
      cases b with
      | len =>
        dsimp only
        cases hq : args.toList with
        | nil => rfl
        | cons x l =>
          cases l with
          | nil =>
            dsimp only
            have : x ∈ args := Array.mem_toList_iff.1 (by rw [hq]; exact List.mem_cons_self)
            rw [h x (by simp [Op.operands, Call.operands, this]), fr]
          | cons y l => rfl
      | _ => dsimp only; exact fr
    | _ => dsimp only; exact fr
  | pick c a b => dsimp only; rw [h c (by simp [Op.operands]), h a (by simp [Op.operands]), h b (by simp [Op.operands])]
  | index ty x i => dsimp only; rw [h x (by simp [Op.operands]), h i (by simp [Op.operands]), fr]
  | indexAddr ty x i => dsimp only; rw [h x (by simp [Op.operands]), h i (by simp [Op.operands])]
  | binOp op ty x y yt => dsimp only; rw [h x (by simp [Op.operands]), h y (by simp [Op.operands]), fr]
  | move x => dsimp only; rw [h x (by simp [Op.operands])]
  | assign x => dsimp only; rw [h x (by simp [Op.operands])]
  | nilCheck x => dsimp only; rw [h x (by simp [Op.operands])]
  | fieldAddr s x f => dsimp only; rw [h x (by simp [Op.operands])]
  | field s x f => dsimp only; rw [h x (by simp [Op.operands])]
  | extract x i => dsimp only; rw [h x (by simp [Op.operands])]
  | makeInterface ty x => dsimp only; rw [h x (by simp [Op.operands])]
  | typeAssert x xT ty q =>
    cases q with
    | true => dsimp only; exact fr
    | false => dsimp only; rw [h x (by simp [Op.operands]), fr]
  | _ => dsimp only; exact fr
theorem quietA_congr {P : Program} {t t2 : Operand → Value} {A : AW} (o : Oper) (h : ∀ x ∈ o.op.operands, t x = t2 x) : quietA P t A o = quietA P t2 A o := by
  unfold quietA
  have hc : cls t o = cls t2 o := by
    unfold cls
    obtain ⟨dst, op, type, pos, after, guard⟩ := o
    cases op with
    | slice ty x lo hi mx =>
      cases mx with
      | none => dsimp only; rw [h x (by simp [Op.operands])]
      | some m => rfl
    | call c =>
      obtain ⟨callee, args, ts⟩ := c
      cases callee with
      | builtin b =>
        cases b with
        | len =>
          dsimp only
          cases hq : args.toList with
          | nil => rfl
          | cons x l =>
            cases l with
            | nil =>
              dsimp only
              have : x ∈ args := Array.mem_toList_iff.1 (by rw [hq]; exact List.mem_cons_self)
              rw [h x (by simp [Op.operands, Call.operands, this])]
            | cons y l => rfl
        | _ => rfl
      | _ => rfl
    | _ => rfl
  have hm : opM P t A o = opM P t2 A o := by
    unfold opM
    obtain ⟨dst, op, type, pos, after, guard⟩ := o
    cases op with
    | load ty x => dsimp only; rw [h x (by simp [Op.operands])]
    | slice ty x lo hi mx =>
      cases mx with
      | none =>
        dsimp only
        rw [h x (by simp [Op.operands]), optmap_congr (x := lo) fun y hy => h y (by simp [Op.operands, hy]), optmap_congr (x := hi) fun y hy => h y (by simp [Op.operands, hy])]
      | some m => rfl
    | call c =>
      obtain ⟨callee, args, ts⟩ := c
      cases callee with
      | builtin b =>
        cases b with
        | len =>
          dsimp only
          cases hq : args.toList with
          | nil => rfl
          | cons x l =>
            cases l with
            | nil =>
              dsimp only
              have : x ∈ args := Array.mem_toList_iff.1 (by rw [hq]; exact List.mem_cons_self)
              rw [h x (by simp [Op.operands, Call.operands, this])]
            | cons y l => rfl
        | _ => rfl
      | _ => rfl
    | _ => rfl
  have hg : ghostA P t o = ghostA P t2 o := by
    unfold ghostA
    obtain ⟨dst, op, type, pos, after, guard⟩ := o
    cases op with
    | box e x => dsimp only; rw [h x (by simp [Op.operands])]
    | makeSlice ty l c =>
      dsimp only
      rw [h l (by simp [Op.operands]), h c (by simp [Op.operands])]
    | buildSlice ty n ps =>
      dsimp only
      rw [partsA_congr fun p hp => h p.2 (by simp only [Op.operands]; exact List.mem_toArray.2 (List.mem_map.2 ⟨p, hp, rfl⟩))]
    | _ => rfl
  rw [hc, hm, hg, opQ_congr o h]
theorem quietA_le {P : Program} {t : Operand → Value} {A A' : AW} (h : A.le A') {o : Oper} {q : QA} (hq : quietA P t A o = some q) : quietA P t A' o = some q := by
  unfold quietA at hq ⊢
  cases hk : okOp o with
  | false => rw [hk] at hq; cases hq
  | true =>
    rw [hk, cond_true] at hq
    rw [cond_true]
    cases hc : cls t o with
    | mem =>
      rw [hc] at hq
      dsimp only at hq ⊢
      have hm : ∀ v, opM P t A o = some v → opM P t A' o = some v := by
        intro v hv
        unfold opM at hv ⊢
        obtain ⟨dst, op, type, pos, after, guard⟩ := o
        cases op with
        | load ty x =>
          dsimp only at hv ⊢
          cases hl : loadL P A ty (t x) with
          | none => rw [hl] at hv; cases hv
          | some r => rw [loadL_le h hl]; rw [hl] at hv; exact hv
        | slice ty x lo hi mx =>
          cases mx with
          | none => dsimp only at hv ⊢; exact sliceA_le h hv
          | some m => cases hv
        | call c =>
          obtain ⟨callee, args, ts⟩ := c
          cases callee with
          | builtin b =>
            cases b with
            | len =>
              dsimp only at hv ⊢
              split at hv
              · split at hv
                · obtain ⟨ty, d, e, cap, buf, p2, p3, p4, rfl⟩ := lenC_spec hv
                  exact lenC_of p2 p3 (h _ _ p4)
                · obtain ⟨b, ty, k, e, es, c, f, r, p1, p2, p3, p4, rfl⟩ := lenM_spec hv
                  rw [p1]
                  exact lenM_of p2 p3 (h _ _ p4)
              · cases hv
            | _ => cases hv
          | _ => cases hv
        | _ => cases hv
      cases hv : opM P t A o with
      | none => rw [hv] at hq; cases hq
      | some v => rw [hm v hv]; rw [hv] at hq; exact hq
    | pure => rw [hc] at hq; exact hq
    | ghost => rw [hc] at hq; exact hq

section
variable {P : Program} {B : Nat} {w0 : Base} {ρ : Ren} {A : AW} {w : World}
/-- a quiet operation gives in the world what it gave -/
theorem quiet_val (G : Good P) (h : SR P B w0 ρ A w) {t t' : Array Value} {o : Oper} (hop : okOp o = true → ∀ x ∈ o.op.operands, VR ρ (ev t x) (ev t' x)) {v : Value} (hq : quietA P (ev t) A o = some (.val v)) :
    ∃ v', VR ρ v v' ∧ (execOp (ev t') o).run P w = .ok (.value v') w := by
  unfold quietA at hq
  cases hk : okOp o with
  | false => rw [hk] at hq; cases hq
  | true =>
    rw [hk, cond_true] at hq
    have ok := hop hk
    cases hc : cls (ev t) o with
    | pure =>
      rw [hc] at hq
      dsimp only at hq
      cases hv : opQ P (ev t) o with
      | none => rw [hv] at hq; cases hq
      | some v1 =>
        rw [hv] at hq
        injection hq with hq; injection hq with hq; subst hq
        obtain ⟨v', g1, g2⟩ := opQ_sound (t' := ev t') G ok hv
        exact ⟨v', g1, g2 w⟩
    | ghost =>
      rw [hc] at hq
      dsimp only at hq
      split at hq
      · injection hq with hq; cases hq
      · cases hq
    | mem =>
      rw [hc] at hq
      dsimp only at hq
      cases hv : opM P (ev t) A o with
      | none => rw [hv] at hq; cases hq
      | some v1 =>
        rw [hv] at hq
        injection hq with hq; injection hq with hq; subst hq
        unfold opM at hv
        obtain ⟨dst, op, type, pos, after, guard⟩ := o
        replace ok : ∀ x, x ∈ op.operands → VR ρ (ev t x) (ev t' x) := ok
        cases op with
        | call c =>
          obtain ⟨callee, args, ts⟩ := c
          cases callee with
          | builtin b =>
            cases b with
            | len =>
              dsimp only at hv
              split at hv
              rotate_left
              · cases hv
              rename_i x hq2
              have hargs : args = #[x] := by rw [← Array.toArray_toList (xs := args), hq2]
              subst hargs
              split at hv
              · rename_i b hb
                obtain ⟨ty, d, e, cap, buf, p2, p3, p4, rfl⟩ := lenC_spec hv
                have hx := ok x (by simp [Op.operands, Call.operands])
                rw [hb] at hx
                generalize hz : ev t' x = z at hx
                cases hx with
                | chan hi =>
                  rename_i i
                  obtain ⟨_, o', ho, hor⟩ := h.blk b _ i p4 hi
                  cases hor with
                  | chan hro hbuf =>
                    rename_i buf' s r
                    have hm : (#[x] : Array Operand).map (ev t') = #[ev t' x] := by simp
                    have hgo : (getObj i.g).run P w = .ok (.chan cap buf' false s r false) w := by simp [getObj, Sem.run, ho]
                    refine ⟨_, .int _ _, ?_⟩
                    rw [hbuf.1]
                    show (do pure (Next.value (← Builtin.len_ ts type ((#[x] : Array Operand).map (ev t')))) : Sem Next).run P w = _
                    rw [hm, hz]
                    have hl : (Builtin.len_ ts type #[.chan (some i.g)]).run P w = .ok (.int .i64 (buf'.size : Int)) w := by
                      simp [Builtin.len_, p2, run_underlying p3, hgo, Result.andThen, goInt]
                    simp only [Bind.bind]
                    rw [run_bind P _ _ w w _ hl]
                    rfl
              obtain ⟨b, ty, k, e, es, c, f, r, p1, p2, p3, p4, rfl⟩ := lenM_spec hv
              have hx := ok x (by simp [Op.operands, Call.operands])
              rw [p1] at hx
              generalize hz : ev t' x = z at hx
              cases hx with
              | map hi =>
                rename_i i
                obtain ⟨es', q1, q2, _⟩ := map_at h hi p4
                have hsz := (EL.to q2).1
                simp only [Array.length_toList] at hsz
                refine ⟨.int .i64 (es'.size : Int), by rw [← hsz]; exact .int _ _, ?_⟩
                have hg2 : (getObj i.g).run P w = .ok (.map es' c) w := Go.MapKept.run_getObj_map q1
                have hm : (#[x] : Array Operand).map (ev t') = #[.map (some i.g)] := by simp [hz]
                have hl : (Builtin.len_ ts type ((#[x] : Array Operand).map (ev t'))).run P w = .ok (.int .i64 (es'.size : Int)) w := by
                  rw [hm]
                  simp [Builtin.len_, p2, run_underlying p3, goInt, hg2, Result.andThen]
                show ((do pure (.value (← Builtin.len_ ts type ((#[x] : Array Operand).map (ev t')))) : Sem Next)).run P w = _
                simp only [Bind.bind]
                rw [run_bind P _ _ w w _ hl]; rfl
            | _ => cases hv
          | _ => cases hv
        | load ty a =>
          dsimp only at hv
          cases hl : loadL P A ty (ev t a) with
          | none => rw [hl] at hv; cases hv
          | some r =>
            obtain ⟨⟨b, off, l⟩, v2⟩ := r
            rw [hl] at hv
            injection hv with hv; subst hv
            obtain ⟨i2, l', v', q1, q2, q3, q4, q5⟩ := loadL_sound h (ok a (by simp [Op.operands])) hl
            refine ⟨v', q4, ?_⟩
            have hrun := q5 w q3
            simp only [execOp, Bind.bind]
            rw [run_bind P _ _ w w v' hrun]; rfl
        | slice ty x lo hi mx =>
          cases mx with
          | none =>
            dsimp only at hv
            obtain ⟨v', g1, g3⟩ := sliceA_sound h (ok x (by simp [Op.operands])) (opt_rel lo (fun y hy => ok y (by simp [Op.operands, hy]))) (opt_rel hi (fun y hy => ok y (by simp [Op.operands, hy]))) hv
            refine ⟨v', g3, ?_⟩
            show ((do pure (.value (← Instr.sliceAt ty (ev t' x) (lo.map (ev t')) (hi.map (ev t')) none)) : Sem Next)).run P w = _
            simp only [Bind.bind]
            rw [run_bind P _ _ w w v' (g1 w)]; rfl
          | some m => cases hv
        | _ => cases hv
/-- .. and a block that it makes is the one that it made -/
theorem quiet_ghost (G : Good P) (h : SR P B w0 ρ A w) {t t' : Array Value} {o : Oper} (hop : okOp o = true → ∀ x ∈ o.op.operands, VR ρ (ev t x) (ev t' x)) {c : Array Value} {e : TypeId} {n : Option (Nat × Nat)} (hq : quietA P (ev t) A o = some (.ghost c e n))
    {b : Nat} (hb : A.heap.get b = some ⟨.cells c e (0, 0), false, false⟩) (hn : ρ b = none) (hoff : ∀ x, ¬ w0.Γ b x) :
    ∃ i v' w', SR P B w0 (ρ.more b i) A w' ∧ VR (ρ.more b i) (ghostV b n) v' ∧ (execOp (ev t') o).run P w = .ok (.value v') w' := by
  have land : ∀ c', AR ρ c c' → SR P B w0 (ρ.more b ⟨w.heap.size, false, false, 0, 0, 0⟩) A { w with heap := w.heap.push (.cells c' e) } := by
    intro c' hc
    refine h.land hn hoff hb rfl rfl rfl (by simp) (Nat.le_trans h.low h.below.size) (by simp) (fun k hk hlt => by simp [Array.getElem?_push, Nat.ne_of_lt hlt]) (fun b y j hy hj he => ?_) h.mkNew (.exact rfl rfl (hc.mono (Ren.le_more hn)) rfl rfl)
    have := h.old hy hj
    simp only at he
    omega
  have gv : ∀ n, VR (ρ.more b ⟨w.heap.size, false, false, 0, 0, 0⟩) (ghostV b n) (match n with | none => .pointer (some ⟨w.heap.size, 0, none⟩) | some n => .slice (some ⟨w.heap.size, 0, none⟩) n.1 n.2) := by
    intro n
    have hi := Ren.more_self ρ b ⟨w.heap.size, false, false, 0, 0, 0⟩
    cases n with
    | none => exact .ptr hi
    | some n => exact .slice hi (.inl ⟨rfl, rfl⟩)
  unfold quietA at hq
  cases hk : okOp o with
  | false => rw [hk] at hq; cases hq
  | true =>
    rw [hk, cond_true] at hq
    have ok := hop hk
    have nov : ∀ (x : Option Value), (match x with | some v => some (QA.val v) | none => none) = some (QA.ghost c e n) → False := by
      intro x hx; cases x <;> simp at hx
    cases hc : cls (ev t) o with
    | pure => rw [hc] at hq; exact (nov _ hq).elim
    | mem => rw [hc] at hq; exact (nov _ hq).elim
    | ghost =>
      rw [hc] at hq
      dsimp only at hq
      cases hg : ghostA P (ev t) o with
      | none => rw [hg] at hq; cases hq
      | some r =>
        obtain ⟨c1, e1, n1⟩ := r
        rw [hg] at hq
        injection hq with hq; injection hq with q1 q2 q3; subst q1 q2 q3
        unfold ghostA at hg
        obtain ⟨dst, op, type, pos, after, guard⟩ := o
        replace ok : ∀ x, x ∈ op.operands → VR ρ (ev t x) (ev t' x) := ok
        cases op with
        | alloc ty =>
          dsimp only at hg
          cases hi : P.info? ty with
          | none => rw [hi] at hg; cases hg
          | some i =>
            rw [hi] at hg
            dsimp only at hg
            cases hz : i.zero with
            | none => rw [hz] at hg; cases hg
            | some z =>
              rw [hz] at hg
              injection hg with hg; injection hg with g1 g2; injection g2 with g2 g3; subst g1 g2 g3
              refine ⟨_, _, _, land z.cells ((G.zeros _ i z hi hz) ρ).cells, gv none, ?_⟩
              simp [execOp, Instr.alloc, zeroValue, typeInfo, hi, hz, newVar, newRow, newObj, Sem.run]
        | box ty x =>
          dsimp only at hg
          injection hg with hg; injection hg with g1 g2; injection g2 with g2 g3; subst g1 g2 g3
          refine ⟨_, _, _, land (ev t' x).cells (ok x (by simp [Op.operands])).cells, gv none, ?_⟩
          simp [execOp, Instr.box, newVar, newRow, newObj, Sem.run]
        | makeSlice ty l cc =>
          dsimp only at hg
          have hl := ok l (by simp [Op.operands])
          have hc2 := ok cc (by simp [Op.operands])
          generalize ev t l = xl at hl hg
          generalize ev t cc = xc at hc2 hg
          split at hg
          rotate_left
          · cases hg
          rename_i e2 kl zl kc zc htu
          generalize hxl : ev t' l = xl' at hl
          generalize hxc : ev t' cc = xc' at hc2
          cases hl
          cases hc2
          cases hie : P.info? e2 with
          | none => rw [hie] at hg; cases hg
          | some ie =>
            rw [hie] at hg
            dsimp only at hg
            cases hzz : ie.zero with
            | none => rw [hzz] at hg; cases hg
            | some z =>
              rw [hzz] at hg
              dsimp only at hg
              cases hqq : decide (0 ≤ zl) && decide (zl ≤ zc) && Nat.ble (zc.toNat * ie.size) 16777216 && Nat.ble (ie.bytes * zc.toNat) 281474976710656 && Nat.ble zc.toNat 4611686018427387904 with
              | false => rw [hqq] at hg; cases hg
              | true =>
                rw [hqq, cond_true] at hg
                rw [Bool.and_eq_true, Bool.and_eq_true, Bool.and_eq_true, Bool.and_eq_true] at hqq
                obtain ⟨⟨⟨⟨q1, q2⟩, q3⟩, q4⟩, q5⟩ := hqq
                injection hg with hg; injection hg with g1 g2; injection g2 with g2 g3; subst g1 g2 g3
                have q1 := of_decide_eq_true q1
                have q2 := of_decide_eq_true q2
                have q3 : zc.toNat * ie.size ≤ 16777216 := Nat.le_of_ble_eq_true q3
                have q4 : ie.bytes * zc.toNat ≤ 281474976710656 := Nat.le_of_ble_eq_true q4
                have q5 : zc.toNat ≤ 4611686018427387904 := Nat.le_of_ble_eq_true q5
                have hzc : (zc.toNat : Int) = zc := by omega
                have q4' : (ie.bytes : Int) * zc ≤ 281474976710656 := by
                  rw [← hzc, ← Int.natCast_mul]
                  omega
                have hrun := run_makeSlice (P := P) (w := w) ty e2 ie z htu hie hzz kl kc zl zc q1 q2 q3 q4' (by omega)
                have hcells : AR ρ (madeCells z.cells (zc.toNat * ie.size)) (madeCells z.cells (zc.toNat * ie.size)) := by
                  have hzr : AR ρ z.cells z.cells := ((G.zeros e2 ie z hie hzz) _).cells
                  unfold madeCells
                  refine AR.map _ fun x => ?_
                  by_cases hx : x % z.cells.size < z.cells.size
                  · rw [getElem!_pos z.cells _ hx]
                    exact hzr.2 _ hx hx
                  · rw [getElem!_neg z.cells _ hx]
                    exact free_rel _ rfl
                refine ⟨_, _, _, land _ hcells, gv (some (zl.toNat, zc.toNat)), ?_⟩
                show ((do pure (.value (← Instr.makeSlice ty (ev t' l) (ev t' cc) )) : Sem Next)).run P w = _
                rw [hxl, hxc]
                simp only [Bind.bind]
                rw [run_bind P _ _ w _ _ hrun]; rfl
        | buildSlice ty len ps =>
          dsimp only at hg
          split at hg
          rotate_left
          · cases hg
          rename_i e2 htu
          cases hie : P.info? e2 with
          | none => rw [hie] at hg; cases hg
          | some ie =>
            rw [hie] at hg
            dsimp only at hg
            cases hzz : ie.zero with
            | none => rw [hzz] at hg; cases hg
            | some z =>
              rw [hzz] at hg
              dsimp only at hg
              cases hqq : Nat.ble (len * ie.size) 16777216 with
              | false => rw [hqq] at hg; cases hg
              | true =>
                rw [hqq, cond_true] at hg
                have h1 : len * ie.size ≤ 16777216 := Nat.le_of_ble_eq_true hqq
                cases hf : Instr.fill (fun i => some (i * ie.size, ie.size)) ((Array.range (len * ie.size)).map (z.cells[· % z.cells.size]!)) (partsA (ev t) ps) with
                | none => rw [hf] at hg; cases hg
                | some cells =>
                  rw [hf] at hg
                  injection hg with hg; injection hg with g1 g2; injection g2 with g2 g3; subst g1 g2 g3
                  have hzr := ((G.zeros e2 ie z hie hzz) ρ).cells
                  have hcr : AR ρ ((Array.range (len * ie.size)).map (z.cells[· % z.cells.size]!)) ((Array.range (len * ie.size)).map (z.cells[· % z.cells.size]!)) := by
                    refine AR.map _ fun k => ?_
                    by_cases hk : k % z.cells.size < z.cells.size
                    · rw [getElem!_pos z.cells _ hk]; exact hzr.2 _ hk hk
                    · rw [getElem!_neg z.cells _ hk]; exact .bool _
                  have hpr : PR ρ (partsA (ev t) ps) (partsA (ev t') ps) := parts_rel _ fun p hp => ok p.2 (by simp only [Op.operands]; exact List.mem_toArray.2 (List.mem_map.2 ⟨p, hp, rfl⟩))
                  obtain ⟨cells', g1, g2⟩ := fill_rel _ _ (partsA (ev t') ps) _ _ cells hpr hcr hf
                  refine ⟨_, _, _, land cells' g2, gv (some (len, len)), ?_⟩
                  have hs1 : ¬ len * ie.size > 2 ^ 24 := by have : (2 : Nat) ^ 24 = 16777216 := by decide
                                                            omega
                  have g3 : Instr.fill (fun i => some (i * ie.size, ie.size)) ((Array.range (len * ie.size)).map (z.cells[· % z.cells.size]!)) (List.map (fun x => (x.fst, ev t' x.snd)) ps.toList) = some cells' := g1
                  by_cases hs2 : len * ie.size = 0
                  · rw [hs2] at g3
                    have hE : ∀ f : Nat → Value, (Array.range 0).map f = #[] := fun f => Array.eq_empty_of_size_eq_zero (by simp)
                    rw [hE] at g3
                    simp [execOp, Instr.buildSlice, run_underlying htu, sizeOf, typeInfo, hie, hs2, hE, newRow, newObj]
                    rw [g3]
                    rfl
                  · simp [execOp, Instr.buildSlice, run_underlying htu, sizeOf, typeInfo, zeroValue, hie, hzz, hs1, hs2, newRow, newObj]
                    rw [g3]
                    rfl
        | _ => cases hg
end
end Go.Proofs.YtfeppmhcpfccfaaGreatDoor.Sim
