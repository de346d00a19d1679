/- A verified evaluator, part J: what an operation does. Of no program. -/
import Derived.Test.YthnmadbfebjpkaaGreatDoorSimI
namespace Go.Proofs.YthnmadbfebjpkaaGreatDoor.Sim
open Go Go.RowKit

/-- what comes of an operation -/
inductive AN where
  | val (v : Value)
  | skip
  | enter (f : FuncId) (args : Array Value)
  | round (b : Nat) (tmps : Array Value) (assign body : Code)
def NR (ρ : Ren) : AN → Next → Prop
  | .val v, .value v' => VR ρ v v'
  | .skip, .skip => True
  | .enter f args, .enter f' args' => f = f' ∧ AR ρ args args'
  | .round b tmps a c, .round l _ tmps' a' c' => (∃ i, ρ b = some i ∧ l = i.g) ∧ AR ρ tmps tmps' ∧ a = a' ∧ c = c'
  | _, _ => False
def valA : Option (Value × AW) → Option (AN × AW)
  | some (v, A) => some (.val v, A)
  | none => none
def isSel : Op → Bool
  | .select _ _ => true
  | _ => false
/-- an operation over values that name no block -/
def freeQ (P : Program) (t : Operand → Value) (o : Oper) : Option Value :=
  bif o.op.operands.toList.all (fun x => free (t x)) && !isSel o.op then
    match pureRun P (execOp t o) with
    | some (.value v) => bif free v then some v else none
    | _ => none
  else none
def natOf : Option Value → Nat → Option Nat
  | none, d => some d
  | some (.int _ z), _ => bif decide (0 ≤ z) then some z.toNat else none
  | some _, _ => none
def sliceA (P : Program) (ty : TypeId) (x : Value) (lo hi : Option Value) (A : AW) : Option Value :=
  match P.underlying ty, x with
  | some (.slice e), .slice a n c =>
    match P.info? e, natOf lo 0, natOf hi n with
    | some i, some l, some h =>
      bif Nat.ble l h && Nat.ble h c then
        match a with
        | none => some (.slice none (h - l) (c - l))
        | some ⟨b, o, none⟩ => match A.heap.get b with
          | some ⟨.cells _ e' _, fam, _⟩ =>
            bif fam then (bif Nat.beq e' e && ((Nat.beq l 0 || Nat.blt l c) || (Nat.beq o 0 && Nat.beq l c)) then some (.slice (some ⟨b, o + l * i.size, none⟩) (h - l) (c - l)) else none)
            else some (.slice (some ⟨b, bif Nat.beq c l then o else o + l * i.size, none⟩) (h - l) (c - l))
          | _ => none
        | _ => none
      else none
    | _, _, _ => none
  | _, _ => none
/-- a slice whose capacity is cut to its length: of a block that was grown it bears a mark -/
def clipA (P : Program) (ty : TypeId) (x hi mx : Value) (A : AW) : Option Value :=
  match P.underlying ty, x with
  | some (.slice e), .slice a n c => match P.info? e, natOf (some hi) 0, natOf (some mx) 0 with
    | some _, some h, some m => bif Nat.beq h n && Nat.beq m n && Nat.ble n c then
        match a with
        | none => some (.slice none n n)
        | some ⟨b, o, none⟩ => match A.heap.get b with
          | some ⟨.cells _ _ _, fam, _⟩ => bif fam then (bif Nat.blt 0 n then some (.slice (some ⟨b, o, some 0⟩) n n) else none) else some (.slice (some ⟨b, o, none⟩) n n)
          | _ => none
        | _ => none
      else none
    | _, _, _ => none
  | _, _ => none
def buildSliceA (P : Program) (ty : TypeId) (len : Nat) (l : List (Nat × Value)) (A : AW) : Option (Value × AW) :=
  match P.underlying ty with
  | some (.slice e) => match P.info? e with
    | some ie => match ie.zero with
      | some z =>
        bif Nat.ble (len * ie.size) 16777216 then
          match Instr.fill (fun i => some (i * ie.size, ie.size)) ((Array.range (len * ie.size)).map (z.cells[· % z.cells.size]!)) l with
          | some cells => bif A.room then some (.slice (some ⟨A.next, 0, none⟩) len len, A.add ⟨.cells cells e (0, 0), false, false⟩) else none
          | none => none
        else none
      | none => none
    | none => none
  | _ => none
def shapeOf : Value → Nat
  | .pointer _ => 1
  | .slice _ _ _ => 2
  | .map _ => 3
  | .nilFunc => 4
  | .func _ _ _ => 5
  | .nilIface => 6
  | .iface _ _ => 7
  | _ => 0
def eqShape (a b : Value) : Bool :=
  match shapeOf a, shapeOf b with
  | 1, 1 => true
  | 2, 2 => true
  | 3, 3 => true
  | 4, 4 => true
  | 4, 5 => true
  | 5, 4 => true
  | 6, 7 => true
  | 7, 6 => true
  | _, _ => false
def eqA (P : Program) (neg : Bool) (ty : TypeId) (x y : Value) : Option Value :=
  bif eqShape x y then match pureRun P (eqlA ty x y) with
  | some b => some (.bool (bif neg then !b else b))
  | none => none
  else none
/-- the operations that look at no memory -/
def opQ (P : Program) (t : Operand → Value) (o : Oper) : Option Value :=
  match o.op with
  | .move x | .assign x => some (t x)
  | .pick c a b => match t c with
    | .bool q => some (bif q then t a else t b)
    | _ => none
  | .build ty ps => match P.built ty (partsA t ps) with
    | some c => some (.agg c)
    | none => none
  | .nilCheck x => match t x with
    | .pointer (some a) => some (.pointer (some a))
    | .func (.func f) a b => some (.func (.func f) a b)
    | _ => none
  | .fieldAddr s x f => pureRun P (fieldAtA s (t x) f)
  | .field s x f => pureRun P (Instr.field s (t x) f)
  | .indexAddr ty x i => pureRun P (indexAtA ty (t x) (t i))
  | .index ty x i => match t x with
    | .agg _ => pureRun P (indexA ty (t x) (t i))
    | _ => freeQ P t o
  | .extract x i => pureRun P (Instr.extract (t x) i)
  | .makeInterface ty x => pureRun P (Instr.makeInterface ty (t x))
  | .makeFunc fn f c => bif plainFn fn then some (.func fn (evs t f) (evs t c)) else none
  | .slice _ x _ _ none => match t x with
    | .slice _ _ _ => none
    | _ => freeQ P t o
  | .binOp op ty x y _ => bif free (t x) && free (t y) then freeQ P t o else match op with
    | .eql => eqA P false ty (t x) (t y)
    | .neq => eqA P true ty (t x) (t y)
    | _ => none
  | .call ⟨.builtin .len, args, argTypes⟩ => match args.toList with
    | [x] => match t x with
      | .slice _ n _ => match argTypes[0]? with
        | some ty => match P.underlying ty with
          | some (.slice _) => some (.int .i64 n)
          | _ => none
        | none => none
      | _ => freeQ P t o
    | _ => none
  | _ => freeQ P t o
def okOp (o : Oper) : Bool := o.op.operands.toList.all okX
section
variable {P : Program} {B : Nat} {w0 : Base} {ρ : Ren} {A : AW} {w : World} {t t' : Operand → Value}
/-- the conclusion -/
def Does (P : Program) (B : Nat) (w0 : Base) (ρ : Ren) (w : World) (s : Sem Next) (n : AN) (A' : AW) : Prop :=
  ∃ ρ' n' w', s.run P w = .ok n' w' ∧ ρ.le ρ' ∧ SR P B w0 ρ' A' w' ∧ NR ρ' n n'
theorem does_val (h : SR P B w0 ρ A w) {s s' : Sem Value} (hs : Sim P B w0 ρ s s' VR) {n : AN} {A' : AW} (ha : valA (runA P s A) = some (n, A')) : Does P B w0 ρ w (do pure (.value (← s'))) n A' := by
  cases hr : runA P s A with
  | none => rw [hr] at ha; cases ha
  | some x =>
    obtain ⟨v, A1⟩ := x
    rw [hr] at ha
    simp only [valA] at ha
    injection ha with ha; injection ha with h1 h2; subst h1 h2
    obtain ⟨ρ', v', w', g1, g2, g3, g4⟩ := hs.1 A w h v A1 hr
    exact ⟨ρ', .value v', w', by simp only [Bind.bind]; rw [run_bind P s' _ w w' v' g1]; rfl, g2, g3, g4⟩
theorem does_run {s' : Sem Value} {ρ' : Ren} {v v' : Value} {w' : World} {A' : AW} (g1 : s'.run P w = .ok v' w') (g2 : ρ.le ρ') (g3 : SR P B w0 ρ' A' w') (g4 : VR ρ' v v') : Does P B w0 ρ w (do pure (.value (← s'))) (.val v) A' :=
  ⟨ρ', .value v', w', by simp only [Bind.bind]; rw [run_bind P s' _ w w' v' g1]; rfl, g2, g3, g4⟩
theorem does_pure (h : SR P B w0 ρ A w) {v v' : Value} (hv : VR ρ v v') : Does P B w0 ρ w (pure (.value v')) (.val v) A := ⟨ρ, _, w, rfl, Ren.le_refl _, h, hv⟩
theorem okAll {o : Oper} (hk : o.op.operands.toList.all okX = true) {x : Operand} (hx : x ∈ o.op.operands) : okX x = true := List.all_eq_true.1 hk x (Array.mem_toList_iff.2 hx)
/-- a value, whatever the world -/
def Gives (P : Program) (ρ : Ren) (s : Sem Next) (v : Value) : Prop := ∃ v', VR ρ v v' ∧ ∀ W, s.run P W = .ok (.value v') W
theorem gives_sem {s s' : Sem Value} (hs : Sim P B w0 ρ s s' VR) {v : Value} (ha : pureRun P s = some v) : Gives P ρ (do pure (.value (← s'))) v := by
  obtain ⟨v', h1, h2⟩ := hs.2 v ha
  exact ⟨v', h2, fun W => by simp only [Bind.bind]; rw [run_bind P s' _ W W v' (pureRun_sound h1 W)]; rfl⟩
theorem gives_run {s' : Sem Value} {v v' : Value} (h : ∀ W, s'.run P W = .ok v' W) (hv : VR ρ v v') : Gives P ρ (do pure (.value (← s'))) v :=
  ⟨v', hv, fun W => by simp only [Bind.bind]; rw [run_bind P s' _ W W v' (h W)]; rfl⟩
theorem gives_pure {v v' : Value} (hv : VR ρ v v') : Gives P ρ (pure (.value v')) v := ⟨v', hv, fun _ => rfl⟩
theorem freeQ_sound {o : Oper} (ok : ∀ x ∈ o.op.operands, VR ρ (t x) (t' x)) {v : Value} (ha : freeQ P t o = some v) : Gives P ρ (execOp t' o) v := by
  unfold freeQ at ha
  cases hq : o.op.operands.toList.all (fun x => free (t x)) && !isSel o.op with
  | false => rw [hq] at ha; cases ha
  | true =>
    rw [hq, cond_true] at ha
    rw [Bool.and_eq_true] at hq
    have hev : ∀ x ∈ o.op.operands, t' x = t x := fun x hx => free_eq (List.all_eq_true.1 hq.1 x (Array.mem_toList_iff.2 hx)) (ok x hx)
    have hsel : ∀ cs b, o.op ≠ .select cs b := by
      intro cs b he
      rw [he] at hq
      have := hq.2
      simp [isSel] at this
    have hcg := execOp_congr (ρ := t') (ρ' := t) o hsel hev
    cases hp : pureRun P (execOp t o) with
    | none => rw [hp] at ha; cases ha
    | some n1 =>
      rw [hp] at ha
      cases n1 with
      | value v1 =>
        dsimp only at ha
        cases hf : free v1 with
        | false => rw [hf] at ha; cases ha
        | true =>
          rw [hf, cond_true] at ha
          injection ha with ha; subst ha
          exact ⟨v1, free_rel ρ hf, fun W => by rw [hcg]; exact pureRun_sound hp W⟩
      | _ => cases ha
theorem natOf_run {lo lo' : Option Value} {d k : Nat} (hl : (lo = none ∧ lo' = none) ∨ ∃ v v', lo = some v ∧ lo' = some v' ∧ VR ρ v v') (h : natOf lo d = some k) :
    (lo' = none ∧ k = d) ∨ ∃ kk z, lo' = some (.int kk z) ∧ 0 ≤ z ∧ (k : Int) = z := by
  rcases hl with ⟨rfl, rfl⟩ | ⟨v, v', rfl, rfl, hv⟩
  · simp only [natOf] at h; injection h with h; exact .inl ⟨rfl, h.symm⟩
  · cases hv with
    | int kk z =>
      simp only [natOf] at h
      by_cases hz : 0 ≤ z
      · rw [decide_eq_true hz, cond_true] at h
        injection h with h
        exact .inr ⟨kk, z, rfl, hz, by omega⟩
      · rw [decide_eq_false hz] at h; cases h
    | _ => cases h
theorem run_sliceAt {ty e : TypeId} {i : TypeInfo} (ht : P.underlying ty = some (.slice e)) (hi : P.info? e = some i) (a : Option Addr) (n c l h : Nat) {lo hi' : Option Value}
    (hlo : (lo = none ∧ l = 0) ∨ ∃ kk z, lo = some (.int kk z) ∧ 0 ≤ z ∧ (l : Int) = z) (hhi : (hi' = none ∧ h = n) ∨ ∃ kk z, hi' = some (.int kk z) ∧ 0 ≤ z ∧ (h : Int) = z) (hlh : l ≤ h) (hhc : h ≤ c) (w : World) :
    (Instr.sliceAt ty (.slice a n c) lo hi' none).run P w = .ok (.slice (if c = l then a else a.map (·.add (l * i.size))) (h - l) (c - l)) w := by
  rcases hlo with ⟨rfl, rfl⟩ | ⟨k1, z1, rfl, p1, q1⟩
  · rcases hhi with ⟨rfl, rfl⟩ | ⟨k2, z2, rfl, p2, q2⟩
    · simp [Instr.sliceAt, Instr.slice, Instr.sliceBounds, run_underlying ht, sizeOf, typeInfo, hi]
    · have : z2 ≤ (c : Int) := by omega
      have h3 : z2.toNat = h := by omega
      simp [Instr.sliceAt, Instr.slice, Instr.sliceBounds, Instr.sliceBound, asIntOf, run_underlying ht, sizeOf, typeInfo, hi, p2, this, h3]
  · have h4 : z1.toNat = l := by omega
    rcases hhi with ⟨rfl, rfl⟩ | ⟨k2, z2, rfl, p2, q2⟩
    · have : z1 ≤ (h : Int) := by omega
      simp [Instr.sliceAt, Instr.slice, Instr.sliceBounds, Instr.sliceBound, asIntOf, run_underlying ht, sizeOf, typeInfo, hi, p1, this, h4]
    · have h5 : z2 ≤ (c : Int) := by omega
      have h3 : z2.toNat = h := by omega
      have h6 : z1 ≤ (h : Int) := by omega
      simp [Instr.sliceAt, Instr.slice, Instr.sliceBounds, Instr.sliceBound, asIntOf, run_underlying ht, sizeOf, typeInfo, hi, p1, p2, h3, h4, h5, h6]
theorem sliceA_sound (h : SR P B w0 ρ A w) {ty : TypeId} {x x' : Value} (hx : VR ρ x x') {lo lo' hi hi' : Option Value} (hl : (lo = none ∧ lo' = none) ∨ ∃ v v', lo = some v ∧ lo' = some v' ∧ VR ρ v v') (hh : (hi = none ∧ hi' = none) ∨ ∃ v v', hi = some v ∧ hi' = some v' ∧ VR ρ v v')
    {v : Value} (ha : sliceA P ty x lo hi A = some v) : ∃ v', (∀ W, (Instr.sliceAt ty x' lo' hi' none).run P W = .ok v' W) ∧ VR ρ v v' := by
  unfold sliceA at ha
  split at ha
  rotate_left
  · cases ha
  rename_i e a n c htu
  split at ha
  rotate_left
  · cases ha
  rename_i i l k hie hlo hhi
  cases hq : Nat.ble l k && Nat.ble k c with
  | false => rw [hq] at ha; cases ha
  | true =>
    rw [hq, cond_true] at ha
    rw [Bool.and_eq_true] at hq
    have hlk : l ≤ k := Nat.le_of_ble_eq_true hq.1
    have hkc : k ≤ c := Nat.le_of_ble_eq_true hq.2
    have r1 := natOf_run hl hlo
    have r2 := natOf_run hh hhi
    cases hx with
    | nilSlice n c =>
      dsimp only at ha
      injection ha with ha; subst ha
      refine ⟨_, run_sliceAt htu hie none n c l k r1 r2 hlk hkc, ?_⟩
      simp only [Option.map_none, ite_self]
      exact .nilSlice _ _
    | clip => cases ha
    | @edge b o j hj hl1 he1 ho1 hc1 =>
      dsimp only at ha
      have hl0 : l = 0 := by omega
      subst hl0
      have hk0 : k = 0 := by omega
      subst hk0
      have hr := run_sliceAt htu hie (some ⟨j.g, 0, none⟩) 0 0 0 0 r1 r2 (Nat.le_refl 0) (Nat.le_refl 0)
      split at ha
      rotate_left
      · cases ha
      rename_i c0 e' f fam ro hb
      obtain ⟨_, o', _, hor⟩ := h.blk b _ j hb hj
      cases fam with
      | true =>
        rw [cond_true] at ha
        cases hq2 : Nat.beq e' e && ((Nat.beq 0 0 || Nat.blt 0 0) || (Nat.beq o 0 && Nat.beq 0 0)) with
        | false => rw [hq2] at ha; cases ha
        | true =>
          rw [hq2, cond_true] at ha
          injection ha with ha; subst ha
          rw [Nat.zero_mul, Nat.add_zero]
          exact ⟨_, hr, .edge hj hl1 he1 ho1 hc1⟩
      | false =>
        cases hor with
        | exact p1 p2 p3 p4 => rw [hl1] at p2; cases p2
        | tab p1 p2 p3 => rw [hl1] at p2; cases p2
    | @slice b o n c c' j hj hc =>
      dsimp only at ha
      have hcc : c ≤ c' := by rcases hc with ⟨_, h1⟩ | ⟨_, h1, _⟩ <;> omega
      have hr := run_sliceAt htu hie (some ⟨j.g, o, none⟩) n c' l k r1 r2 hlk (by omega)
      split at ha
      rotate_left
      · cases ha
      rename_i c0 e' f fam ro hb
      obtain ⟨_, o', _, hor⟩ := h.blk b _ j hb hj
      cases fam with
      | true =>
        rw [cond_true] at ha
        cases hq2 : Nat.beq e' e && ((Nat.beq l 0 || Nat.blt l c) || (Nat.beq o 0 && Nat.beq l c)) with
        | false => rw [hq2] at ha; cases ha
        | true =>
          rw [hq2, cond_true] at ha
          rw [Bool.and_eq_true, Bool.or_eq_true, Bool.or_eq_true, Bool.and_eq_true] at hq2
          have hee : e' = e := Tr.beq_iff.1 hq2.1
          subst hee
          injection ha with ha; subst ha
          cases hor with
          | loose p1 p2 p3 p4 p5 p6 p7 =>
            obtain ⟨ti, hti, hes⟩ := p7
            rw [hie] at hti; injection hti with hti; subst hti
            have hcap : o + c' * j.esz = j.csz := by
              rcases hc with ⟨h8, _⟩ | ⟨_, _, h8, _⟩
              · rw [h8] at p2; cases p2
              · exact h8
            refine ⟨_, hr, ?_⟩
            have hp5 : 0 < j.esz ∧ (o = 0 ∨ 0 < c') := by
              rcases hc with ⟨h8, _⟩ | ⟨_, _, _, h8, h9⟩
              · rw [h8] at p2; cases p2
              · exact ⟨h8, h9⟩
            by_cases hl' : l = 0 ∨ l < c
            rotate_left
            · have hlast : o = 0 ∧ l = c := by
                rcases hq2.2 with (h9 | h9) | ⟨h9, h10⟩
                · exact absurd (.inl (Tr.beq_iff.1 h9)) hl'
                · exact absurd (.inr (Nat.le_of_ble_eq_true h9)) hl'
                · exact ⟨Tr.beq_iff.1 h9, Tr.beq_iff.1 h10⟩
              obtain ⟨rfl, rfl⟩ := hlast
              have hk0 : k = l := by omega
              subst hk0
              have hl0 : 0 < k := by omega
              rw [Nat.sub_self]
              by_cases h9 : c' = k
              · subst h9
                rw [if_pos rfl, Nat.sub_self]
                refine .edge hj p2 hp5.1 ?_ ?_
                · rw [Nat.zero_add, hes]; exact Nat.mul_pos hl0 hp5.1
                · rw [hes]; exact hcap
              · rw [if_neg h9, Option.map_some, add_none]
                have hm2 : k * i.size + (c' - k) * i.size = c' * i.size := by rw [← Nat.add_mul]; congr 1; omega
                exact .slice hj (.inr ⟨p2, by omega, by rw [← hes] at hcap ⊢; omega, hp5.1, .inr (by omega)⟩)
            have hmul : l * i.size + (c' - l) * i.size = c' * i.size := by rw [← Nat.add_mul]; congr 1; omega
            have hadd : (if c' = l then some (⟨j.g, o, none⟩ : Addr) else (some (⟨j.g, o, none⟩ : Addr)).map (·.add (l * i.size))) = some ⟨j.g, o + l * i.size, none⟩ := by
              split
              · rename_i h9
                have : l = 0 := by omega
                subst this; simp
              · simp only [Option.map_some, add_none]
            rw [hadd]
            have hp6 : o + l * i.size = 0 ∨ 0 < c' - l := by
              rcases hl' with h9 | h9
              · subst h9
                rcases hp5.2 with h10 | h10
                · exact .inl (by omega)
                · exact .inr (by omega)
              · exact .inr (by omega)
            exact .slice hj (.inr ⟨p2, by omega, by rw [← hes] at hcap ⊢; omega, hp5.1, hp6⟩)
      | false =>
        rw [cond_false] at ha
        injection ha with ha; subst ha
        cases hor with
        | exact p1 p2 p3 p4 =>
          have hce : c' = c := by
            rcases hc with ⟨_, h8⟩ | ⟨h8, _⟩
            · exact h8
            · rw [h8] at p2; cases p2
          subst hce
          refine ⟨_, hr, ?_⟩
          by_cases h9 : c' = l
          · rw [if_pos h9, Tr.beq_iff.2 h9, cond_true]
            exact .slice hj (.inl ⟨p2, rfl⟩)
          · rw [if_neg h9, Tr.beq_false h9, cond_false, Option.map_some, add_none]
            exact .slice hj (.inl ⟨p2, rfl⟩)
        | tab p1 p2 p3 =>
          have hce : c' = c := by
            rcases hc with ⟨_, h8⟩ | ⟨h8, _⟩
            · exact h8
            · rw [h8] at p2; cases p2
          subst hce
          refine ⟨_, hr, ?_⟩
          by_cases h9 : c' = l
          · rw [if_pos h9, Tr.beq_iff.2 h9, cond_true]
            exact .slice hj (.inl ⟨p2, rfl⟩)
          · rw [if_neg h9, Tr.beq_false h9, cond_false, Option.map_some, add_none]
            exact .slice hj (.inl ⟨p2, rfl⟩)
theorem clipA_sound (h : SR P B w0 ρ A w) {ty : TypeId} {x x' hi hi' mx mx' : Value} (hx : VR ρ x x') (hh : VR ρ hi hi') (hm : VR ρ mx mx')
    {v : Value} (ha : clipA P ty x hi mx A = some v) : ∃ v', (∀ W, (Instr.sliceAt ty x' none (some hi') (some mx')).run P W = .ok v' W) ∧ VR ρ v v' := by
  unfold clipA at ha
  split at ha
  rotate_left
  · cases ha
  rename_i e a n c htu
  split at ha
  rotate_left
  · cases ha
  rename_i i k m hie hhi hmx
  cases hq : Nat.beq k n && Nat.beq m n && Nat.ble n c with
  | false => rw [hq] at ha; cases ha
  | true =>
    rw [hq, cond_true] at ha
    simp only [Bool.and_eq_true] at hq
    obtain rfl := Tr.beq_iff.1 hq.1.1
    obtain rfl := Tr.beq_iff.1 hq.1.2
    have hkc : m ≤ c := Nat.le_of_ble_eq_true hq.2
    rcases natOf_run (.inr ⟨_, _, rfl, rfl, hh⟩) hhi with ⟨h1, _⟩ | ⟨k1, z1, h1, p1, q1⟩
    · cases h1
    rcases natOf_run (.inr ⟨_, _, rfl, rfl, hm⟩) hmx with ⟨h2, _⟩ | ⟨k2, z2, h2, p2, q2⟩
    · cases h2
    injection h1 with h1; injection h2 with h2; subst h1 h2
    have hadd : ∀ a : Option Addr, a.map (fun x => x.add 0) = a := by
      intro a
      cases a with
      | none => rfl
      | some a => simp only [Option.map_some, add0]
    have run : ∀ (a : Option Addr) (c2 : Nat), m ≤ c2 → ∀ W, (Instr.sliceAt ty (.slice a m c2) none (some (.int k1 z1)) (some (.int k2 z2))).run P W = .ok (.slice a m m) W := by
      intro a c2 hc2 W
      have e1 : z1.toNat = m := by omega
      have e2 : z2.toNat = m := by omega
      have e3 : z2 ≤ (c2 : Int) := by omega
      have e4 : z1 ≤ (m : Int) := by omega
      have e5 : z1 = z2 := by omega
      simp [Instr.sliceAt, Instr.slice, Instr.sliceBounds, Instr.sliceBound, asIntOf, run_underlying htu, sizeOf, typeInfo, hie, p1, p2, e1, e2, e3, e4]
      intro _
      exact hadd a
    cases hx with
    | nilSlice n c =>
      dsimp only at ha
      injection ha with ha; subst ha
      exact ⟨_, run none c hkc, .nilSlice _ _⟩
    | @edge b o j hj hl1 he1 ho1 hc1 =>
      dsimp only at ha
      split at ha
      rotate_left
      · cases ha
      rename_i c0 e' f fam ro hb
      obtain ⟨_, o', _, hor⟩ := h.blk b _ j hb hj
      cases fam with
      | true => cases ha
      | false =>
        cases hor with
        | exact p1 p2 p3 p4 => rw [hl1] at p2; cases p2
        | tab p1 p2 p3 => rw [hl1] at p2; cases p2
    | @slice b o n c c' j hj hc =>
      dsimp only at ha
      have hcc : c ≤ c' := by rcases hc with ⟨_, h1⟩ | ⟨_, h1, _⟩ <;> omega
      split at ha
      rotate_left
      · cases ha
      rename_i c0 e' f fam ro hb
      obtain ⟨_, o', _, hor⟩ := h.blk b _ j hb hj
      refine ⟨_, run (some ⟨j.g, o, none⟩) c' (by omega), ?_⟩
      cases fam with
      | true =>
        rw [cond_true] at ha
        cases hn : Nat.blt 0 m with
        | false => rw [hn] at ha; cases ha
        | true =>
          rw [hn, cond_true] at ha
          injection ha with ha; subst ha
          exact .clip hj
      | false =>
        rw [cond_false] at ha
        injection ha with ha; subst ha
        cases hor with
        | exact p1 p2 p3 p4 => exact .slice hj (.inl ⟨p2, rfl⟩)
        | tab p1 p2 p3 => exact .slice hj (.inl ⟨p2, rfl⟩)
    | _ => cases ha
theorem buildSliceA_sound (hz : Zeros P) (h : SR P B w0 ρ A w) {ty : TypeId} {len : Nat} {l : List (Nat × Value)} {ps : Array (Nat × Value)} (hl : PR ρ l ps.toList) {v : Value} {A' : AW} (ha : buildSliceA P ty len l A = some (v, A')) :
    ∃ ρ' v' w', (Instr.buildSlice ty len ps).run P w = .ok v' w' ∧ ρ.le ρ' ∧ SR P B w0 ρ' A' w' ∧ VR ρ' v v' := by
  unfold buildSliceA at ha
  split at ha
  rotate_left
  · cases ha
  rename_i e htu
  cases hie : P.info? e with
  | none => rw [hie] at ha; cases ha
  | some ie =>
    rw [hie] at ha
    dsimp only at ha
    cases hzz : ie.zero with
    | none => rw [hzz] at ha; cases ha
    | some z =>
      rw [hzz] at ha
      dsimp only at ha
      cases hq : Nat.ble (len * ie.size) 16777216 with
      | false => rw [hq] at ha; cases ha
      | true =>
        rw [hq, cond_true] at ha
        have h1 : len * ie.size ≤ 16777216 := Nat.le_of_ble_eq_true hq
        cases hf : Instr.fill (fun i => some (i * ie.size, ie.size)) ((Array.range (len * ie.size)).map (z.cells[· % z.cells.size]!)) l with
        | none => rw [hf] at ha; cases ha
        | some cells =>
          rw [hf] at ha
          dsimp only at ha
          cases hr : A.room with
          | false => rw [hr] at ha; cases ha
          | true =>
            rw [hr, cond_true] at ha
            injection ha with ha; injection ha with e1 e2; subst e1 e2
            have hzr := ((hz e ie z hie hzz) ρ).cells
            have hcr : AR ρ ((Array.range (len * ie.size)).map (z.cells[· % z.cells.size]!)) ((Array.range (len * ie.size)).map (z.cells[· % z.cells.size]!)) := by
              refine AR.map _ fun k => ?_
              by_cases hk : k % z.cells.size < z.cells.size
              · rw [getElem!_pos z.cells _ hk]; exact hzr.2 _ hk hk
              · rw [getElem!_neg z.cells _ hk]; exact .bool _
            obtain ⟨cells', g1, g2⟩ := fill_rel _ l ps.toList _ _ cells hl hcr hf
            obtain ⟨ρ', a', w', q1, q2, q3, b, i, q4, q5, q6, q7⟩ := (Sim.newRow (P := P) (B := B) (w0 := w0) g2 e).1 A w h ⟨A.next, 0, none⟩ (A.add ⟨.cells cells e (0, 0), false, false⟩) (by simp only [Go.newRow, newObj, Bind.bind, Pure.pure, Sem.bind, runA, hr, cond_true])
            injection q4 with q4 _; subst q4
            subst q7
            refine ⟨ρ', .slice (some ⟨i.g, 0, none⟩) len len, w', ?_, q2, q3, .slice q5 (.inl ⟨q6, rfl⟩)⟩
            have hs1 : ¬ len * ie.size > 2 ^ 24 := by have : (2 : Nat) ^ 24 = 16777216 := by decide
                                                      omega
            by_cases hs2 : len * ie.size = 0
            · rw [hs2] at g1
              have hE : ∀ f : Nat → Value, (Array.range 0).map f = #[] := fun f => Array.eq_empty_of_size_eq_zero (by simp)
              rw [hE] at g1
              simp [Instr.buildSlice, run_underlying htu, sizeOf, typeInfo, hie, hs2, hE, g1, q1]
            · simp [Instr.buildSlice, run_underlying htu, sizeOf, typeInfo, zeroValue, hie, hzz, hs1, hs2, g1, q1]
theorem opt_rel (x : Option Operand) (hx : ∀ y, x = some y → VR ρ (t y) (t' y)) : (x.map t = none ∧ x.map t' = none) ∨ ∃ v v', x.map t = some v ∧ x.map t' = some v' ∧ VR ρ v v' := by
  cases x with
  | none => exact .inl ⟨rfl, rfl⟩
  | some y => exact .inr ⟨_, _, rfl, rfl, hx y rfl⟩
theorem does_slice {s' : Sem Value} {A' : AW} {n : AN} {r : Option (Value × AW)} (ha : valA r = some (n, A')) (hr : ∀ v A1, r = some (v, A1) → ∃ ρ' v' w', s'.run P w = .ok v' w' ∧ ρ.le ρ' ∧ SR P B w0 ρ' A1 w' ∧ VR ρ' v v') : Does P B w0 ρ w (do pure (.value (← s'))) n A' := by
  cases hrr : r with
  | none => rw [hrr] at ha; cases ha
  | some x =>
    obtain ⟨v, A1⟩ := x
    rw [hrr] at ha
    simp only [valA] at ha
    injection ha with ha; injection ha with h1 h2; subst h1 h2
    obtain ⟨ρ', v', w', g1, g2, g3, g4⟩ := hr v A1 hrr
    exact does_run g1 g2 g3 g4
theorem shapeOf_rel {v v' : Value} (h : VR ρ v v') : shapeOf v' = shapeOf v := by cases h <;> rfl
theorem eqShape_op {a b : Value} (h : eqShape a b = true) (ty : TypeId) (x y : Operand) :
    (∀ op, eqGuard op ty x y a b = pure ()) ∧ binOp .eql ty a b = (do pure (.bool (← Op.equal ty a b))) ∧ binOp .neq ty a b = (do pure (.bool (!(← Op.equal ty a b)))) := by
  have hg : ∀ op, eqGuard op ty x y a b = pure () := by
    intro op
    cases a <;> cases b <;> first
      | (cases h; done)
      | (cases op <;> rfl)
  refine ⟨hg, ?_, ?_⟩
  · cases a <;> cases b <;> first
      | (cases h; done)
      | rfl
  · cases a <;> cases b <;> first
      | (cases h; done)
      | rfl
theorem eqA_sound {neg : Bool} {ty : TypeId} {x y : Operand} {v1 v1' v2 v2' : Value} (hx : VR ρ v1 v1') (hy : VR ρ v2 v2') {v : Value} (ha : eqA P neg ty v1 v2 = some v) :
    Gives P ρ (do pure (.value (← (do eqGuard (bif neg then .neq else .eql) ty x y v1' v2'; binOp (bif neg then .neq else .eql) ty v1' v2')))) v := by
  unfold eqA at ha
  cases hsh : eqShape v1 v2 with
  | false => rw [hsh] at ha; cases ha
  | true =>
    rw [hsh, cond_true] at ha
    have hsh' : eqShape v1' v2' = true := by unfold eqShape at hsh ⊢; rw [shapeOf_rel hx, shapeOf_rel hy]; exact hsh
    obtain ⟨hg, h1, h2⟩ := eqShape_op hsh' ty x y
    cases hr : pureRun P (eqlA ty v1 v2) with
    | none => rw [hr] at ha; cases ha
    | some b =>
      rw [hr] at ha
      dsimp only at ha
      injection ha with ha; subst ha
      obtain ⟨b', g1, g2⟩ := (Sim.eql (B := 0) (w0 := default) hx hy ty).2 b hr
      subst g2
      refine gives_run (v' := .bool (bif neg then !b' else b')) (fun W => ?_) (.bool _)
      have g := pureRun_sound g1 W
      cases neg with
      | false =>
        simp only [cond_false, hg, h1, Bind.bind]
        show ((Op.equal ty v1' v2').bind _).run P W = _
        rw [run_bind P _ _ W W b' g]; rfl
      | true =>
        simp only [cond_true, hg, h2, Bind.bind]
        show ((Op.equal ty v1' v2').bind _).run P W = _
        rw [run_bind P _ _ W W b' g]; rfl
end
end Go.Proofs.YthnmadbfebjpkaaGreatDoor.Sim
