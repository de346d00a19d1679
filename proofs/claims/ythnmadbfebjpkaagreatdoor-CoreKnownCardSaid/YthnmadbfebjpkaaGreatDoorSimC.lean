/- A verified evaluator, part C: operations run over both memories. Of no program. -/
import Derived.Test.YthnmadbfebjpkaaGreatDoorSimB
namespace Go.Proofs.YthnmadbfebjpkaaGreatDoor.Sim
open Go Go.RowKit

/-- an operation over the evaluator's memory; nothing but a plain end is told -/
def runA {α : Type} (P : Program) : Sem α → AW → Option (α × AW)
  | .pure a, A => some (a, A)
  | .load _ a k, A => match A.cell? a with
    | some v => runA P (k v) A
    | none => none
  | .store _ _ (.agg _) _, _ => none
  | .store _ _ (.tuple _) _, _ => none
  | .store _ a v k, A => match A.store a v with
    | some A' => runA P k A'
    | none => none
  | .new (.cells c e (0, 0)) k, A => bif A.room then runA P (k A.next) (A.add ⟨.cells c e (0, 0), false, false⟩) else none
  | .new (.map es c) k, A => bif A.room && es.isEmpty then runA P (k A.next) (A.add ⟨.map #[] c, false, false⟩) else none
  | .new (.stringIter s p) k, A => bif A.room then runA P (k A.next) (A.add ⟨.stringIter s p, false, false⟩) else none
  | .new (.mapIter m a b c) k, A => bif A.room then runA P (k A.next) (A.add ⟨.mapIter m a b c, false, false⟩) else none
  | .shape r k, A => match A.heap.get r with
    | some ⟨.cells c e _, false, _⟩ => runA P (k (some (e, c.size))) A
    | some ⟨.map _ _, _, _⟩ => runA P (k none) A
    | some ⟨.stringIter _ _, _, _⟩ => runA P (k none) A
    | some ⟨.mapIter _ _ _ _, _, _⟩ => runA P (k none) A
    | _ => none
  | .getObj r k, A => match A.heap.get r with
    | some ⟨.map es c, _, _⟩ => runA P (k (.map es c)) A
    | some ⟨.stringIter s p, _, _⟩ => runA P (k (.stringIter s p)) A
    | some ⟨.mapIter m a b c, _, _⟩ => runA P (k (.mapIter m a b c)) A
    | _ => none
  | .setObj r o k, A => match A.heap.get r, o with
    | some ⟨.map _ _, _, false⟩, .map es c => runA P k (A.put r (some ⟨.map es c, false, false⟩))
    | some ⟨.stringIter _ _, _, false⟩, .stringIter s p => runA P k (A.put r (some ⟨.stringIter s p, false, false⟩))
    | some ⟨.mapIter _ _ _ _, _, false⟩, .mapIter m a b c => runA P k (A.put r (some ⟨.mapIter m a b c, false, false⟩))
    | _, _ => none
  | .choose q k, A => bif q.forced then runA P (k 0) A else none
  | .program k, A => runA P (k P) A
  | .mark _ k, A => runA P k A
  | _, _ => none

theorem runA_bind {α β : Type} (P : Program) : ∀ (s : Sem α) (f : α → Sem β) (A : AW), runA P (s.bind f) A = (runA P s A).bind fun x => runA P (f x.1) x.2 := by
  intro s f
  induction s with
  | pure a => intro A; rfl
  | load m a k ih =>
    intro A
    simp only [Sem.bind, runA]
    cases A.cell? a with
    | none => rfl
    | some v => exact ih v A
  | store m a v k ih =>
    intro A
    cases v <;> simp only [Sem.bind, runA] <;> first
      | rfl
      | (cases A.store a _ with
         | none => rfl
         | some A' => exact ih A')
  | new o k ih =>
    intro A
    cases o with
    | cells c e fz =>
      obtain ⟨lo, hi⟩ := fz
      cases lo with
      | zero => cases hi with
        | zero =>
          simp only [Sem.bind, runA]
          cases A.room with
          | true => exact ih _ _
          | false => rfl
        | succ n => rfl
      | succ n => rfl
    | map es c =>
      simp only [Sem.bind, runA]
      cases A.room && es.isEmpty with
      | true => exact ih _ _
      | false => rfl
    | stringIter s p =>
      simp only [Sem.bind, runA]
      cases A.room with
      | true => exact ih _ _
      | false => rfl
    | mapIter m a b c =>
      simp only [Sem.bind, runA]
      cases A.room with
      | true => exact ih _ _
      | false => rfl
    | _ => rfl
  | shape r k ih =>
    intro A
    simp only [Sem.bind, runA]
    split <;> first | exact ih _ _ | rfl
  | freeze a n k ih => intro A; rfl
  | frozen a k ih => intro A; rfl
  | getObj r k ih =>
    intro A
    simp only [Sem.bind, runA]
    split <;> first | exact ih _ _ | rfl
  | setObj r o k ih =>
    intro A
    simp only [Sem.bind, runA]
    split <;> first | exact ih _ | rfl
  | choose q k ih =>
    intro A
    simp only [Sem.bind, runA]
    cases q.forced with
    | true => exact ih _ _
    | false => rfl
  | sys c k ih => intro A; rfl
  | program k ih => intro A; exact ih P A
  | mark m k ih => intro A; exact ih A
  | halt h => intro A; rfl

theorem run_bind {α β : Type} (P : Program) : ∀ (s : Sem α) (f : α → Sem β) (w w' : World) (a : α), s.run P w = .ok a w' → (s.bind f).run P w = (f a).run P w' := by
  intro s f
  induction s with
  | pure a => intro w w' b h; simp only [Sem.run] at h; injection h with h1 h2; subst h1 h2; rfl
  | load m a k ih =>
    intro w w' b h
    simp only [Sem.bind, Sem.run] at h ⊢
    split at h
    · rename_i v hv; exact ih v w w' b h
    · rename_i hv
      split at h
      · exact ih _ w w' b h
      · cases h
  | store m a v k ih =>
    intro w w' b h
    cases v <;> simp only [Sem.bind, Sem.run] at h ⊢ <;> first
      | (cases h; done)
      | (split at h
         · split at h
           · cases h
           · rename_i hv hf; rw [if_neg hf]; exact ih _ w' b h
         · split at h
           · exact ih _ w' b h
           · cases h)
  | new o k ih => intro w w' b h; exact ih _ _ w' b h
  | shape r k ih => intro w w' b h; exact ih _ _ w' b h
  | freeze a n k ih => intro w w' b h; exact ih _ w' b h
  | frozen a k ih => intro w w' b h; exact ih _ _ w' b h
  | getObj r k ih =>
    intro w w' b h
    simp only [Sem.bind, Sem.run] at h ⊢
    split at h
    · cases h
    · exact ih _ _ w' b h
    · cases h
  | setObj r o k ih =>
    intro w w' b h
    simp only [Sem.bind, Sem.run] at h ⊢
    split at h
    · cases h
    · exact ih _ w' b h
    · cases h
  | choose q k ih =>
    intro w w' b h
    simp only [Sem.bind, Sem.run] at h ⊢
    split at h
    · rename_i hq; rw [if_pos hq]; exact ih _ _ w' b h
    · rename_i hq; rw [if_neg hq]; exact ih _ _ w' b h
  | sys c k ih => intro w w' b h; exact ih _ _ w' b h
  | program k ih => intro w w' b h; exact ih _ _ w' b h
  | mark m k ih => intro w w' b h; exact ih _ w' b h
  | halt h => intro w w' b h'; cases h'

theorem bind_void {α β : Type} (x : Option α) : (x.bind fun _ => (none : Option β)) = none := by cases x <;> rfl
/-- a memory with nothing in it, and no room -/
def noMem : AW := ⟨.leaf, 2 ^ bits⟩
/-- what an operation gives that looks at no memory -/
def pureRun {α : Type} (P : Program) (s : Sem α) : Option α := match runA P s noMem with | some (a, _) => some a | none => none
theorem noMem_room : noMem.room = false := by decide
theorem noMem_run {α : Type} (P : Program) : ∀ (s : Sem α) (a : α) (A' : AW), runA P s noMem = some (a, A') → A' = noMem ∧ ∀ w, s.run P w = .ok a w := by
  intro s
  induction s with
  | pure a =>
    intro b A' h
    simp only [runA] at h
    injection h with h; injection h with h1 h2; subst h1
    exact ⟨h2.symm, fun _ => rfl⟩
  | load m a k ih => intro b A' h; simp only [runA, AW.cell?, noMem, Tr.get] at h; cases h
  | store m a v k ih => intro b A' h; cases v <;> simp only [runA, AW.store, noMem, Tr.get] at h <;> cases h
  | new o k ih =>
    intro b A' h
    cases o with
    | cells c e fz =>
      obtain ⟨lo, hi⟩ := fz
      cases lo with
      | zero => cases hi with
        | zero => simp only [runA, noMem_room, cond_false] at h; cases h
        | succ n => simp only [runA] at h; cases h
      | succ n => simp only [runA] at h; cases h
    | map es c => simp only [runA, noMem_room, Bool.false_and, cond_false] at h; cases h
    | stringIter s p => simp only [runA, noMem_room, cond_false] at h; cases h
    | mapIter m a b c => simp only [runA, noMem_room, cond_false] at h; cases h
    | _ => simp only [runA] at h; cases h
  | shape r k ih => intro b A' h; simp only [runA, noMem, Tr.get] at h; cases h
  | freeze a n k ih => intro b A' h; simp only [runA] at h; cases h
  | frozen a k ih => intro b A' h; simp only [runA] at h; cases h
  | getObj r k ih => intro b A' h; simp only [runA, noMem, Tr.get] at h; cases h
  | setObj r o k ih => intro b A' h; simp only [runA, noMem, Tr.get] at h; cases h
  | choose q k ih =>
    intro b A' h
    simp only [runA] at h
    cases hq : q.forced with
    | false => rw [hq] at h; cases h
    | true =>
      rw [hq, cond_true] at h
      simp only [Sem.run, hq, if_true]
      exact ih 0 b A' h
  | sys c k ih => intro b A' h; simp only [runA] at h; cases h
  | program k ih => intro b A' h; exact ih P b A' h
  | mark m k ih => intro b A' h; exact ih b A' h
  | halt x => intro b A' h; simp only [runA] at h; cases h
theorem pureRun_sound {α : Type} {P : Program} {s : Sem α} {a : α} (h : pureRun P s = some a) (w : World) : s.run P w = .ok a w := by
  unfold pureRun at h
  cases hr : runA P s noMem with
  | none => rw [hr] at h; cases h
  | some x =>
    obtain ⟨b, A'⟩ := x
    rw [hr] at h
    injection h with h; subst h
    exact (noMem_run P s b A' hr).2 w

/-- what the evaluator's operation does, the other one does too -/
def Sim {α β : Type} (P : Program) (B : Nat) (w0 : Base) (ρ : Ren) (s : Sem α) (s' : Sem β) (R : Ren → α → β → Prop) : Prop :=
  (∀ A w, SR P B w0 ρ A w → ∀ a A', runA P s A = some (a, A') → ∃ ρ' b w', s'.run P w = .ok b w' ∧ ρ.le ρ' ∧ SR P B w0 ρ' A' w' ∧ R ρ' a b) ∧
  (∀ a, pureRun P s = some a → ∃ b, pureRun P s' = some b ∧ R ρ a b)
theorem pureRun_mem {α : Type} {P : Program} {s : Sem α} {a : α} (h : pureRun P s = some a) : runA P s noMem = some (a, noMem) := by
  unfold pureRun at h
  cases hr : runA P s noMem with
  | none => rw [hr] at h; cases h
  | some x =>
    obtain ⟨b, A'⟩ := x
    rw [hr] at h
    injection h with h; subst h
    rw [(noMem_run P s b A' hr).1]
theorem pureRun_of {α : Type} {P : Program} {s : Sem α} {a : α} {A : AW} (h : runA P s noMem = some (a, A)) : pureRun P s = some a := by unfold pureRun; rw [h]
theorem pureRun_bind {α β : Type} {P : Program} {s : Sem α} {f : α → Sem β} {c : β} : pureRun P (s >>= f) = some c ↔ ∃ a, pureRun P s = some a ∧ pureRun P (f a) = some c := by
  constructor
  · intro h
    have h1 := pureRun_mem h
    simp only [Bind.bind, runA_bind] at h1
    cases hr : runA P s noMem with
    | none => rw [hr] at h1; cases h1
    | some x =>
      obtain ⟨a, A1⟩ := x
      rw [hr] at h1
      have e := (noMem_run P s a A1 hr).1
      subst e
      exact ⟨a, pureRun_of hr, pureRun_of h1⟩
  · rintro ⟨a, h1, h2⟩
    refine pureRun_of (A := noMem) ?_
    simp only [Bind.bind, runA_bind]
    rw [pureRun_mem h1]
    exact pureRun_mem h2

section
variable {P : Program} {B : Nat} {w0 : Base} {ρ : Ren} {α β γ δ : Type}
theorem Sim.pure {R : Ren → α → β → Prop} {a : α} {b : β} (h : R ρ a b) : Sim P B w0 ρ (pure a) (pure b) R := by
  refine ⟨fun A w hs x A' hx => ?_, fun x hx => ⟨b, rfl, ?_⟩⟩
  · simp only [Pure.pure, runA] at hx
    injection hx with hx; injection hx with h1 h2; subst h1 h2
    exact ⟨ρ, b, w, rfl, Ren.le_refl _, hs, h⟩
  · simp only [Pure.pure, pureRun, runA] at hx
    injection hx with hx; subst hx; exact h
theorem Sim.bind {R : Ren → α → β → Prop} {R' : Ren → γ → δ → Prop} {s : Sem α} {s' : Sem β} {f : α → Sem γ} {f' : β → Sem δ} (h : Sim P B w0 ρ s s' R)
    (hf : ∀ ρ' a b, ρ.le ρ' → R ρ' a b → Sim P B w0 ρ' (f a) (f' b) R') : Sim P B w0 ρ (s >>= f) (s' >>= f') R' := by
  refine ⟨fun A w hs c A' hc => ?_, fun c hc => ?_⟩
  · simp only [Bind.bind, runA_bind] at hc
    cases hr : runA P s A with
    | none => rw [hr] at hc; cases hc
    | some x =>
      rw [hr] at hc
      obtain ⟨a, A1⟩ := x
      obtain ⟨ρ1, b, w1, h1, h2, h3, h4⟩ := h.1 A w hs a A1 hr
      obtain ⟨ρ2, d, w2, g1, g2, g3, g4⟩ := (hf ρ1 a b h2 h4).1 A1 w1 h3 c A' hc
      exact ⟨ρ2, d, w2, by simp only [Bind.bind]; rw [run_bind P s' f' w w1 b h1]; exact g1, Ren.le_trans h2 g2, g3, g4⟩
  · obtain ⟨a, h1, h2⟩ := pureRun_bind.1 hc
    obtain ⟨b, g1, g2⟩ := h.2 a h1
    obtain ⟨d, g3, g4⟩ := (hf ρ a b (Ren.le_refl _) g2).2 c h2
    exact ⟨d, pureRun_bind.2 ⟨b, g1, g3⟩, g4⟩
theorem Sim.mono {R R' : Ren → α → β → Prop} {s : Sem α} {s' : Sem β} (h : Sim P B w0 ρ s s' R) (hr : ∀ ρ' a b, ρ.le ρ' → R ρ' a b → R' ρ' a b) : Sim P B w0 ρ s s' R' := by
  refine ⟨fun A w hs a A' ha => ?_, fun a ha => ?_⟩
  · obtain ⟨ρ1, b, w1, h1, h2, h3, h4⟩ := h.1 A w hs a A' ha
    exact ⟨ρ1, b, w1, h1, h2, h3, hr _ _ _ h2 h4⟩
  · obtain ⟨b, h1, h2⟩ := h.2 a ha
    exact ⟨b, h1, hr _ _ _ (Ren.le_refl _) h2⟩
theorem Sim.void {R : Ren → α → β → Prop} {s : Sem α} {s' : Sem β} (h : ∀ A, runA P s A = none) : Sim P B w0 ρ s s' R := by
  refine ⟨fun A w hs a A' ha => ?_, fun a ha => ?_⟩
  · rw [h] at ha; cases ha
  · unfold pureRun at ha; rw [h] at ha; cases ha
theorem Sim.halt {R : Ren → α → β → Prop} {x : Halt} {s' : Sem β} : Sim P B w0 ρ (.halt x) s' R := Sim.void fun _ => rfl
theorem Sim.stuck {R : Ren → α → β → Prop} {x : String} {s' : Sem β} : Sim P B w0 ρ (stuck x) s' R := Sim.void fun _ => rfl
theorem Sim.unsupported {R : Ren → α → β → Prop} {x : Unsupported} {s' : Sem β} : Sim P B w0 ρ (unsupported x) s' R := Sim.void fun _ => rfl
theorem Sim.panic {R : Ren → α → β → Prop} {x : RuntimeError} {s' : Sem β} : Sim P B w0 ρ (runtimePanic x) s' R := Sim.void fun A => by
  cases x <;> simp only [runtimePanic, Bind.bind, runA_bind, program, runA, goPanic, Option.bind_some, newVar, newRow, elemOf, underlying, bind_void]
theorem Sim.program : Sim P B w0 ρ program program (fun _ p p' => P = p ∧ P = p') := by
  refine ⟨fun A w hs x A' hx => ?_, fun x hx => ⟨P, rfl, ?_, rfl⟩⟩
  · simp only [Go.program, runA] at hx
    injection hx with hx; injection hx with h1 h2; subst h1 h2
    exact ⟨ρ, P, w, rfl, Ren.le_refl _, hs, rfl, rfl⟩
  · simp only [Go.program, pureRun, runA] at hx
    injection hx
theorem Sim.mark {m m' : Mark} : Sim P B w0 ρ (mark m) (mark m') (fun _ _ _ => True) := by
  refine ⟨fun A w hs x A' hx => ?_, fun x hx => ⟨(), rfl, trivial⟩⟩
  simp only [Go.mark, runA] at hx
  injection hx with hx; injection hx with h1 h2; subst h1 h2
  exact ⟨ρ, (), w, rfl, Ren.le_refl _, hs, trivial⟩
theorem Sim.load {b o : Nat} {i : Info} (hi : ρ b = some i) (m : Mode) : Sim P B w0 ρ (load ⟨b, o, none⟩ m) (load ⟨i.g, o, none⟩ m) VR := by
  refine ⟨fun A w hs x A' hx => ?_, fun x hx => ?_⟩
  rotate_left
  · simp only [Go.load, pureRun, runA, AW.cell?, noMem, Tr.get] at hx; cases hx
  simp only [Go.load, runA] at hx
  cases hc : A.cell? ⟨b, o, none⟩ with
  | none => rw [hc] at hx; cases hx
  | some v =>
    rw [hc] at hx
    injection hx with hx; injection hx with h1 h2; subst h1 h2
    obtain ⟨v', h1, h2⟩ := hs.cell hi hc
    exact ⟨ρ, v', w, by simp only [Go.load, Sem.run, h1], Ren.le_refl _, hs, h2⟩
theorem VR.plain {v v' : Value} (h : VR ρ v v') : (∀ c, v ≠ .agg c) → (∀ c, v ≠ .tuple c) → (∀ c, v' ≠ .agg c) ∧ (∀ c, v' ≠ .tuple c) := by
  intro h1 h2
  cases h <;> first
    | exact absurd rfl (h1 _)
    | exact absurd rfl (h2 _)
    | exact ⟨fun c hc => (by cases hc), fun c hc => (by cases hc)⟩
theorem run_store (P : Program) (m : Mode) (a : Addr) (v : Value) (h1 : ∀ c, v ≠ .agg c) (h2 : ∀ c, v ≠ .tuple c) (w : World) {x : Value} (hc : w.cell? a = some x) (hf : w.frozen? a = false) :
    (store a v m).run P w = .ok () (w.setCell a v) := by
  unfold Go.store
  cases v <;> first
    | exact absurd rfl (h1 _)
    | exact absurd rfl (h2 _)
    | simp [Sem.run, hc, hf]
theorem runA_store (P : Program) (m : Mode) (a : Addr) (v : Value) (A : AW) {x : Unit × AW} (h : runA P (store a v m) A = some x) : (∀ c, v ≠ .agg c) ∧ (∀ c, v ≠ .tuple c) ∧ A.store a v = some x.2 := by
  unfold Go.store at h
  cases v <;> simp only [runA] at h <;> first
    | (cases h; done)
    | (refine ⟨fun c hc => (by cases hc), fun c hc => (by cases hc), ?_⟩
       cases hs : A.store a _ with
       | none => rw [hs] at h; cases h
       | some A' => rw [hs] at h; injection h with h; subst h; rfl)
theorem Sim.store {b o : Nat} {i : Info} (hi : ρ b = some i) {v v' : Value} (hv : VR ρ v v') (m : Mode) : Sim P B w0 ρ (store ⟨b, o, none⟩ v m) (store ⟨i.g, o, none⟩ v' m) (fun _ _ _ => True) := by
  refine ⟨fun A w hs x A' hx => ?_, fun x hx => ?_⟩
  rotate_left
  · have hx := pureRun_mem hx
    obtain ⟨n1, n2, hst⟩ := runA_store P m _ v noMem hx
    simp only [AW.store, noMem, Tr.get] at hst; cases hst
  obtain ⟨n1, n2, hst⟩ := runA_store P m _ v A hx
  obtain ⟨n3, n4⟩ := hv.plain n1 n2
  simp only at hst
  unfold AW.store at hst
  simp only [Option.isSome_none, Bool.false_or] at hst
  split at hst
  · rename_i c e f fam hb
    cases hlt : Nat.blt o c.size with
    | false => rw [hlt] at hst; simp at hst
    | true =>
      rw [hlt] at hst
      simp only [Bool.not_true, cond_false] at hst
      injection hst with hst; subst hst
      have hlt' : o < c.size := Nat.le_of_ble_eq_true hlt
      obtain ⟨hB, o', hg, hor⟩ := hs.blk b _ i hb hi
      have hgl : i.g < w.heap.size := (Array.getElem?_eq_some_iff.1 hg).1
      have hro : i.ro = false := by cases hor <;> assumption
      have fin : ∀ (c' : Array Value) (f' : Nat × Nat), o' = .cells c' e f' → o < c'.size → f' = (0, 0) → OR P ρ i ⟨.cells (c.setIfInBounds o v) e f, fam, false⟩ (.cells (c'.setIfInBounds o v') e f') →
          ∃ ρ' b_1 w', (Go.store ⟨i.g, o, none⟩ v' m).run P w = .ok b_1 w' ∧ ρ.le ρ' ∧ SR P B w0 ρ' (A.put b (some ⟨.cells (c.setIfInBounds o v) e f, fam, false⟩)) w' ∧ True := by
        intro c' f' ho' hlt2 hth hor'
        subst ho'
        refine ⟨ρ, (), w.setCell ⟨i.g, o, none⟩ v', run_store P m _ v' n3 n4 w (x := c'[o]) (by simp [World.cell?, hg, hlt2]) ?_, Ren.le_refl _, ?_, trivial⟩
        · simp only [World.frozen?, hg]
          subst hth
          simp
        · refine hs.change hb hi hro hor' rfl rfl rfl (by simp [World.setCell]) ?_ (fun k hk => Below.heap_setCell _ _ _ _ (by show k ≠ i.g; exact hk))
          have hgg : w.heap[i.g]'hgl = .cells c' e f' := by simpa [Array.getElem?_eq_getElem hgl] using hg
          show (w.heap.modify i.g _)[i.g]? = _
          rw [Array.getElem?_eq_getElem (by simpa using hgl), Array.getElem_modify_self, hgg]
          rfl
      cases hor with
      | exact hro2 hl hr hf =>
        refine fin _ _ rfl (by rw [← hr.1]; exact hlt') hf ?_
        exact .exact hro2 hl (hr.set o hv) hf
      | loose hro2 hl hsz hle hr hf he =>
        refine fin _ _ rfl (by omega) hf ?_
        refine .loose hro2 hl (by simpa using hsz) (by simpa using hle) ?_ hf he
        intro j x hx
        rw [Array.getElem?_setIfInBounds] at hx
        rw [Array.getElem?_setIfInBounds]
        by_cases hoj : o = j
        · subst hoj
          rw [if_pos rfl, if_pos hlt'] at hx
          injection hx with hx; subst hx
          rw [if_pos rfl, if_pos (by omega)]
          exact ⟨v', rfl, hv⟩
        · rw [if_neg hoj] at hx ⊢
          exact hr j x hx
  · cases hst
end
end Go.Proofs.YthnmadbfebjpkaaGreatDoor.Sim
