/- A verified evaluator, part N: code, calls, the whole. Of no program. -/
import Derived.Test.YtnneooidkbhbeaaGreatDoorSimR
import Derived.RangeFuncRecord
set_option linter.unusedVariables false
set_option linter.unusedSimpArgs false
namespace Go.Proofs.YtnneooidkbhbeaaGreatDoor.Sim
open Go Go.RowKit

/-- how code ends -/
inductive AE where
  | normal
  | exit (id : Nat)
  | ret
def AE.up : AE → Exit
  | .normal => .normal
  | .exit id => .exit id
  | .ret => .ret
def resOne (P : Program) (t : Array Value) (A : AW) : ResultVar → Option Value
  | .tmp i => some (t.getD i undef)
  | .cell a ty => match loadL P A ty (t.getD a undef) with
    | some (_, v) => some v
    | none => none
def resAll (P : Program) (t : Array Value) (A : AW) : List ResultVar → Option (List Value)
  | [] => some []
  | r :: rs => match resOne P t A r, resAll P t A rs with
    | some v, some l => some (v :: l)
    | _, _ => none
def resA (P : Program) (fn : Func) (t : Array Value) (A : AW) : Option Value :=
  match resAll P t A fn.results.toList with
  | some [v] => some v
  | some l => some (.tuple l.toArray)
  | none => none

theorem stepR_scope {P : Program} {b : Frame} {a : Act} {k : List Item} {cs : List Frame} {w : World} {c : Code} :
    step P (lone (b.atR a (.code (.scope c) :: k)) cs w) = .next (lone (b.atR a (.code c :: .inScope c :: k)) cs w) :=
  step_lone_go (by simp [stepG, stepG.exec, Frame.atR])
theorem stepR_inScope {P : Program} {b : Frame} {a : Act} {k : List Item} {cs : List Frame} {w : World} {c : Code} :
    step P (lone (b.atR a (.inScope c :: k)) cs w) = .next (lone (b.atR a k) cs w) :=
  step_lone_go (by simp [stepG, stepG.exec, Frame.atR])
theorem wpIn_scope_straight {F : Fence} {n : Nat} {P : Program} {Q : Exit → Act → World → Prop} {a : Act} {w : World} {c : Code} (h : c.wpIn F n P (Exit.noGoto Q) a w) : (Code.scope c).wpIn F n P Q a w := by
  intro b k cs hro hb hr
  have h0 : (lone (b.atR a (.code (.scope c) :: k)) cs w).fenced P F := fenced_calm hb hr rfl
  obtain ⟨e, a₁, w₁, hq, harr⟩ := h b (.inScope c :: k) cs hro hb hr
  cases e with
  | normal => exact ⟨.normal, a₁, w₁, hq, .head h0 stepR_scope (StepsIn.trans harr (.one (fenced_calm hb hr rfl) stepR_inScope))⟩
  | exit id =>
    have hx : exitTo id (.inScope c :: k) = exitTo id k := by simp [exitTo]
    exact ⟨.exit id, a₁, w₁, hq, fun k' hk => .head h0 stepR_scope (harr.1 k' (by rw [hx]; exact hk)),
      fun hr' hk => let ⟨k₁, h1, h2⟩ := harr.2 hr' (by rw [hx]; exact hk); ⟨k₁, h1, .head h0 stepR_scope h2⟩⟩
  | goto l => exact hq.elim
  | ret => exact ⟨_, a₁, w₁, hq, .of_steps (.one h0 stepR_scope) harr⟩
  | panic ch => exact ⟨_, a₁, w₁, hq, .of_steps (.one h0 stepR_scope) harr⟩
  | outgrown => exact ⟨_, a₁, w₁, hq, .of_steps (.one h0 stepR_scope) harr⟩

section
variable {P : Program} {B : Nat} {w0 : Base}
/-- a deferred call's mark -/
def mark (r : Nat) : Deferred := { target := .collected r, args := #[] }
/-- what code does, whatever the world: it runs to an end that K knows of; the marks that it lays stand ahead of the others -/
def WpS (P : Program) (B : Nat) (w0 : Base) (X : (Exit → Act → World → Prop) → Act → World → Prop) (t : Array Value) (A : AW) (K : AE → Array Value → AW → Prop) : Prop :=
  ∀ (Q : Exit → Act → World → Prop) (ds : List Deferred) (Γ : Nat → ABk → Prop) (M : List Nat) (ρ : Ren) (w : World) (t' : Array Value), SR P B ((w0.but Γ).marked M) ρ A w → AR ρ t t' →
    (∀ e ρ' t1 A1 t2 w' M', K e t1 A1 → ρ.le ρ' → AR ρ' t1 t2 → SR P B ((w0.but Γ).marked (M' ++ M)) ρ' A1 w' → Q e.up ⟨t2, M'.map mark ++ ds⟩ w') → X Q ⟨t', ds⟩ w
def CodeS (P : Program) (B : Nat) (w0 : Base) (c : Code) : Array Value → AW → (AE → Array Value → AW → Prop) → Prop := WpS P B w0 (fun Q => c.wpIn w0.F 0 P Q)
theorem CodeS.done {c : Code} {e : AE} (hw : ∀ {Q : Exit → Act → World → Prop} {a : Act} {w : World}, Q e.up a w → c.wpIn w0.F 0 P Q a w) {t : Array Value} {A : AW} {K : AE → Array Value → AW → Prop} (h : K e t A) : CodeS P B w0 c t A K :=
  fun _ _ _ _ ρ w t' hs ht hQ => hw (hQ e ρ t A t' w [] h (Ren.le_refl _) ht hs)
theorem CodeS.skip {t : Array Value} {A : AW} {K : AE → Array Value → AW → Prop} (h : K .normal t A) : CodeS P B w0 .skip t A K := CodeS.done (e := .normal) (fun h => wpIn_skip h) h
theorem CodeS.label {l : Nat} {t : Array Value} {A : AW} {K : AE → Array Value → AW → Prop} (h : K .normal t A) : CodeS P B w0 (.label l) t A K := CodeS.done (e := .normal) (fun h => wpIn_label h) h
theorem CodeS.exit {id : Nat} {t : Array Value} {A : AW} {K : AE → Array Value → AW → Prop} (h : K (.exit id) t A) : CodeS P B w0 (.exit id) t A K := CodeS.done (e := .exit id) (fun h => wpIn_exit h) h
theorem CodeS.ret {t : Array Value} {A : AW} {K : AE → Array Value → AW → Prop} (h : K .ret t A) : CodeS P B w0 .ret t A K := CodeS.done (e := .ret) (fun h => wpIn_ret h) h
theorem CodeS.region (G : Good P) {id : Nat} {ops : Array Oper} {t : Array Value} {A : AW} {K : AE → Array Value → AW → Prop} (h : ∀ Γ M, opsW P B ((w0.but Γ).marked M) ops (K .normal) (List.range ops.size) t A) : CodeS P B w0 (.region id ops false) t A K :=
  fun _ ds Γ M ρ w t' hs ht hQ => wpIn_region (opsW_sound (w0 := (w0.but Γ).marked M) (B := B) G ds _ ρ A w t t' hs ht (h Γ M) fun ρ' tf Af t2 w' g0 g1 g2 g3 => hQ .normal ρ' tf Af t2 w' [] g0 g1 g2 g3)
theorem CodeS.drawn (G : Good P) {id : Nat} {ops : Array Oper} {anc : Nat → Nat} {s : List PS} (hanc : ancOk ops anc = true) (hok : okPlan ops anc s 0 = true) {t : Array Value} {A : AW} {K : AE → Array Value → AW → Prop} (h : ∀ Γ M, planW P B ((w0.but Γ).marked M) ops (K .normal) s t A) : CodeS P B w0 (.region id ops true) t A K :=
  fun _ ds Γ M _ _ _ hs ht hQ => region_any (w0 := (w0.but Γ).marked M) (B := B) G hanc ds hs ht hok (h Γ M) fun ρ' tf Af t2 w' g0 g1 g2 g3 => hQ .normal ρ' tf Af t2 w' [] g0 g1 g2 g3
theorem marks_app {Q : Exit → Act → World → Prop} {e : Exit} {t : Array Value} {M1 M2 : List Nat} {ds : List Deferred} {w : World} (h : Q e ⟨t, (M2 ++ M1).map mark ++ ds⟩ w) : Q e ⟨t, M2.map mark ++ (M1.map mark ++ ds)⟩ w := by
  rw [List.map_append, List.append_assoc] at h
  exact h
theorem CodeS.seq {a b : Code} {t : Array Value} {A : AW} {K : AE → Array Value → AW → Prop} (h : CodeS P B w0 a t A fun e t1 A1 => match e with
    | .normal => CodeS P B w0 b t1 A1 K
    | e => K e t1 A1) : CodeS P B w0 (.seq a b) t A K :=
  fun Q ds Γ M ρ w t' hs ht hQ => wpIn_seq (h (Exit.then (b.wpIn w0.F 0 P Q) Q) ds Γ M ρ w t' hs ht fun e ρ' t1 A1 t2 w' M1 g0 g1 g2 g3 => by
    cases e with
    | normal => exact g0 Q (M1.map mark ++ ds) Γ (M1 ++ M) ρ' w' t2 g3 g2 fun e2 ρ2 t3 A3 t4 w4 M2 q0 q1 q2 q3 => marks_app (hQ e2 ρ2 t3 A3 t4 w4 (M2 ++ M1) q0 (Ren.le_trans g1 q1) q2 (by rw [List.append_assoc]; exact q3))
    | exit id => exact hQ (.exit id) ρ' t1 A1 t2 w' M1 g0 g1 g2 g3
    | ret => exact hQ .ret ρ' t1 A1 t2 w' M1 g0 g1 g2 g3)
theorem CodeS.cond {x : Operand} {a b : Code} {t : Array Value} {A : AW} {K : AE → Array Value → AW → Prop} (hx : okX x = true) (hg : glX w0.gl x = true) {q : Bool} (hv : ev t x = .bool q) (h : (bif q then CodeS P B w0 a t A K else CodeS P B w0 b t A K)) : CodeS P B w0 (.cond x a b) t A K :=
  fun Q ds Γ M ρ w t' hs ht hQ => by
    have hr := ev_rel ht hs.glo hx hg
    rw [hv] at hr
    cases q with
    | true => exact wpIn_cond_true (by rw [eval_ev]; generalize ev t' x = z at hr; cases hr; rfl) (h Q ds Γ M ρ w t' hs ht hQ)
    | false => exact wpIn_cond_false (by rw [eval_ev]; generalize ev t' x = z at hr; cases hr; rfl) (h Q ds Γ M ρ w t' hs ht hQ)
theorem CodeS.block {id : Nat} {b : Code} {t : Array Value} {A : AW} {K : AE → Array Value → AW → Prop} (h : CodeS P B w0 b t A fun e t1 A1 => match e with
    | .exit i => bif Nat.beq i id then K .normal t1 A1 else K (.exit i) t1 A1
    | e => K e t1 A1) : CodeS P B w0 (.block id b) t A K :=
  fun Q ds Γ M ρ w t' hs ht hQ => wpIn_block (h (Exit.inBlock id Q) ds Γ M ρ w t' hs ht fun e ρ' t1 A1 t2 w' M1 g0 g1 g2 g3 => by
    cases e with
    | normal => exact hQ .normal ρ' t1 A1 t2 w' M1 g0 g1 g2 g3
    | ret => exact hQ .ret ρ' t1 A1 t2 w' M1 g0 g1 g2 g3
    | exit i =>
      show (if i = id then Q .normal _ w' else Q (.exit i) _ w')
      dsimp only at g0
      by_cases hid : i = id
      · rw [if_pos hid]; rw [Tr.beq_iff.2 hid, cond_true] at g0; exact hQ .normal ρ' t1 A1 t2 w' M1 g0 g1 g2 g3
      · rw [if_neg hid]; rw [Tr.beq_false hid, cond_false] at g0; exact hQ (.exit i) ρ' t1 A1 t2 w' M1 g0 g1 g2 g3)
theorem CodeS.scope {b : Code} {t : Array Value} {A : AW} {K : AE → Array Value → AW → Prop} (h : CodeS P B w0 b t A K) : CodeS P B w0 (.scope b) t A K :=
  fun Q ds Γ M ρ w t' hs ht hQ => wpIn_scope_straight (h (Exit.noGoto Q) ds Γ M ρ w t' hs ht fun e ρ' t1 A1 t2 w' M1 g0 g1 g2 g3 => by
    have := hQ e ρ' t1 A1 t2 w' M1 g0 g1 g2 g3
    cases e <;> exact this)
/-- so many rounds of a loop at most -/
def RoundS (P : Program) (B : Nat) (w0 : Base) (b : Code) (n : Nat) : Array Value → AW → (AE → Array Value → AW → Prop) → Prop := WpS P B w0 (fun Q => Code.roundsIn w0.F 0 P b Q n)
theorem RoundS.succ {b : Code} {n : Nat} {t : Array Value} {A : AW} {K : AE → Array Value → AW → Prop} (h : CodeS P B w0 b t A fun e t1 A1 => match e with
    | .normal => RoundS P B w0 b n t1 A1 K
    | e => K e t1 A1) : RoundS P B w0 b (n + 1) t A K :=
  fun Q ds Γ M ρ w t' hs ht hQ => by
    show Code.roundsIn w0.F 0 P b Q (n + 1) ⟨t', ds⟩ w
    rw [roundsIn_succ]
    refine h (Exit.then (Code.roundsIn w0.F 0 P b Q n) Q) ds Γ M ρ w t' hs ht fun e ρ' t1 A1 t2 w' M1 g0 g1 g2 g3 => ?_
    cases e with
    | normal => exact g0 Q (M1.map mark ++ ds) Γ (M1 ++ M) ρ' w' t2 g3 g2 fun e2 ρ2 t3 A3 t4 w4 M2 q0 q1 q2 q3 => marks_app (hQ e2 ρ2 t3 A3 t4 w4 (M2 ++ M1) q0 (Ren.le_trans g1 q1) q2 (by rw [List.append_assoc]; exact q3))
    | exit id => exact hQ (.exit id) ρ' t1 A1 t2 w' M1 g0 g1 g2 g3
    | ret => exact hQ .ret ρ' t1 A1 t2 w' M1 g0 g1 g2 g3
theorem CodeS.loop {b : Code} (n : Nat) {t : Array Value} {A : AW} {K : AE → Array Value → AW → Prop} (h : RoundS P B w0 b n t A K) : CodeS P B w0 (.loop b) t A K :=
  fun Q ds Γ M ρ w t' hs ht hQ => wpIn_loop_rounds n (h Q ds Γ M ρ w t' hs ht hQ)
theorem getD_rel {ρ : Ren} {t t' : Array Value} (h : AR ρ t t') (i : Nat) : VR ρ (t.getD i undef) (t'.getD i undef) := ev_rel (x := .tmp i) (gl := fun _ => false) h (fun g hg => by cases hg) rfl rfl
def resF (t : Array Value) : ResultVar → Sem Value
  | .tmp i => pure (t.getD i undef)
  | .cell a ty => do loadVar ty (← asAddr (t.getD a undef))
theorem mapM_run {f : ResultVar → Sem Value} {r : ResultVar} {rs : List ResultVar} {w : World} {v : Value} {l : List Value} (h1 : (f r).run P w = .ok v w) (h2 : (rs.mapM f).run P w = .ok l w) : ((r :: rs).mapM f).run P w = .ok (v :: l) w := by
  rw [List.mapM_cons]
  simp only [Bind.bind]
  rw [run_bind P _ _ w w v h1, run_bind P _ _ w w l h2]
  rfl
theorem resAll_sound {ρ : Ren} {A : AW} {w : World} {t t' : Array Value} (h : SR P B w0 ρ A w) (ht : AR ρ t t') : ∀ (rs : List ResultVar) (l : List Value), resAll P t A rs = some l →
    ∃ l', LR ρ l l' ∧ (rs.mapM (resF t')).run P w = .ok l' w
  | [], l, hl => by
    simp only [resAll] at hl
    injection hl with hl; subst hl
    exact ⟨[], LR.nil ρ, by rw [List.mapM_nil]; rfl⟩
  | r :: rs, l, hl => by
    simp only [resAll] at hl
    split at hl
    · rename_i v l2 h1 h2
      injection hl with hl; subst hl
      obtain ⟨l', g1, g2⟩ := resAll_sound h ht rs l2 h2
      cases r with
      | tmp i =>
        simp only [resOne] at h1
        injection h1 with h1; subst h1
        exact ⟨_ :: l', LR.cons (getD_rel ht i) g1, mapM_run rfl g2⟩
      | cell a ty =>
        simp only [resOne] at h1
        split at h1
        · rename_i hd v2 hx
          injection h1 with h1; subst h1
          obtain ⟨b, o, ll⟩ := hd
          have hp := getD_rel ht a
          obtain ⟨i2, l3, v', q1, q2, q3, q4, q5⟩ := loadL_sound h hp hx
          have hrun := q5 w q3
          have hpp : ∃ ad, t'.getD a undef = .pointer (some ad) := by
            generalize t'.getD a undef = z at hp
            generalize t.getD a undef = y at hp hx
            cases hp with
            | ptr => exact ⟨_, rfl⟩
            | _ => cases hx
          obtain ⟨ad, had⟩ := hpp
          rw [had] at hrun
          refine ⟨v' :: l', LR.cons q4 g1, mapM_run ?_ g2⟩
          show (do loadVar ty (← asAddr (t'.getD a undef)) : Sem Value).run P w = _
          rw [had]
          exact hrun
        · cases h1
    · cases hl
theorem resA_sound {ρ : Ren} {A : AW} {w : World} {t t' : Array Value} (h : SR P B w0 ρ A w) (ht : AR ρ t t') {fn : Func} {v : Value} (hv : resA P fn t A = some v) : ∃ v', VR ρ v v' ∧ (results fn t').run P w = .ok v' w := by
  unfold resA at hv
  cases hl : resAll P t A fn.results.toList with
  | none => rw [hl] at hv; cases hv
  | some l =>
    obtain ⟨l', g1, g2⟩ := resAll_sound h ht _ l hl
    have hm : (fn.results.mapM (resF t')).run P w = .ok l'.toArray w := by
      rw [Array.mapM_eq_mapM_toList]
      show (Sem.bind _ _).run P w = _
      exact (run_bind P _ _ w w l' g2).trans rfl
    rw [hl] at hv
    have hF : results fn t' = (fn.results.mapM (resF t') >>= fun vs => pure (if h : vs.size = 1 then vs[0] else .tuple vs)) := by
      unfold results
      congr 1
    have hres : (results fn t').run P w = .ok (if h : l'.toArray.size = 1 then l'.toArray[0] else .tuple l'.toArray) w := by
      rw [hF]
      show (Sem.bind _ _).run P w = _
      exact (run_bind P _ _ w w l'.toArray hm).trans rfl
    have hlen := g1.1
    match l, l', g1, hlen, hv, hres with
    | [x], [y], g1, _, hv, hres =>
      injection hv with hv; subst hv
      exact ⟨y, g1.2 0 x y rfl rfl, hres⟩
    | [], [], g1, _, hv, hres =>
      injection hv with hv; subst hv
      exact ⟨_, VR.mkTuple g1.toAR, hres⟩
    | x1 :: x2 :: xs, y1 :: y2 :: ys, g1, _, hv, hres =>
      injection hv with hv; subst hv
      exact ⟨_, VR.mkTuple g1.toAR, hres⟩

/-- marks that are come to -/
theorem SR.taken {ρ : Ren} {A : AW} {w : World} {r : Nat} {M : List Nat} (h : SR P B (w0.marked (r :: M)) ρ A w) : SR P B (w0.marked M) ρ A (w.putObj r (.deferred none)) := by
  obtain ⟨hnd, hm⟩ := h.marks
  obtain ⟨m1, m2, m3⟩ := hm r (.head _)
  have hnd' := List.nodup_cons.1 (show (r :: M).Nodup from hnd)
  refine ⟨⟨h.below.os, h.below.tape, h.below.output, by rw [World.putObj_size]; exact h.below.size, fun k hk => (World.putObj_heap_other (by omega)).trans (h.below.block k hk)⟩, h.low, h.dom, h.room, h.lt, h.off, fun b x i hb hi => ?_, h.apart, h.glo, hnd'.2, fun r' hr' => ?_⟩
  · obtain ⟨g1, o', g2, g3⟩ := h.blk b x i hb hi
    exact ⟨g1, o', (World.putObj_heap_other (m3 b x i hb hi)).trans g2, g3⟩
  · obtain ⟨q1, q2, q3⟩ := hm r' (.tail _ hr')
    exact ⟨q1, (World.putObj_heap_other (by intro e; subst e; exact hnd'.1 hr')).trans q2, q3⟩
theorem SR.unmark {ρ : Ren} {A : AW} {w : World} {M1 M : List Nat} (h : SR P B (w0.marked (M1 ++ M)) ρ A w) : SR P B (w0.marked M) ρ A w :=
  ⟨h.below, h.low, h.dom, h.room, h.lt, h.off, h.blk, h.apart, h.glo, (List.nodup_append.1 (show (M1 ++ M).Nodup from h.marks.1)).2.1, fun r hr => h.marks.2 r (List.mem_append.2 (.inr hr))⟩
/-- a mark more -/
theorem SR.marked {ρ : Ren} {A : AW} {w : World} {M : List Nat} (h : SR P B (w0.marked M) ρ A w) : SR P B (w0.marked (w.heap.size :: M)) ρ A (w.alloc (.deferred (some []))) := by
  have hold : ∀ k, k < w.heap.size → (w.alloc (.deferred (some []))).heap[k]? = w.heap[k]? := fun k hk => (Go.MapKept.heap_alloc w _).2 k hk
  have hB := Nat.le_trans h.low h.below.size
  refine ⟨⟨h.below.os, h.below.tape, h.below.output, Nat.le_trans h.below.size (by simp), fun k hk => (hold k (by omega)).trans (h.below.block k hk)⟩, h.low, h.dom, h.room, h.lt, h.off, fun b x i hb hi => ?_, h.apart, h.glo, List.nodup_cons.2 ⟨fun hm => Nat.lt_irrefl _ (h.mkOld hm), h.marks.1⟩, fun r hr => ?_⟩
  · obtain ⟨g1, o', g2, g3⟩ := h.blk b x i hb hi
    exact ⟨g1, o', (hold _ (Array.getElem?_eq_some_iff.1 g2).1).trans g2, g3⟩
  · rcases List.mem_cons.1 hr with rfl | hr
    · exact ⟨hB, (Go.MapKept.heap_alloc w _).1, fun b x i hb hi => Nat.ne_of_lt (h.old hb hi)⟩
    · obtain ⟨q1, q2, q3⟩ := h.marks.2 r hr
      exact ⟨q1, (hold _ (h.mkOld hr)).trans q2, q3⟩
theorem leave_marks {ρ : Ren} {A : AW} {fn : Func} {tmps : Array Value} {R : Ending → World → Prop} {M : List Nat} : ∀ (M1 : List Nat) (w : World), SR P B (w0.marked (M1 ++ M)) ρ A w → (∀ w2, SR P B (w0.marked M) ρ A w2 → LeavesIn Fence.wide 0 P fn tmps R [] .returning w2) →
    LeavesInM Fence.wide 0 P fn tmps R (M1.map mark ++ []) .returning w
  | [], w, h, hE => hE w h
  | r :: M1, w, h, hE => ⟨(by intro e; cases e), .inl ⟨r, _, rfl, run_takeDeferred (h.marks.2 r (.head _)).2.1, leave_marks M1 _ (SR.taken h) hE⟩⟩
/-- a call -/
theorem CallS.of (G : Good P) {f : FuncId} {fn : Func} {c : Code} (hf : P.funcs[f]? = some fn) (hb : fn.body = some c) {args : Array Value} {A : AW} {K : Value → AW → Prop}
    (h : CodeS P B (w0.at none) c (args ++ Array.replicate (fn.ntmps - args.size) undef) A fun e t1 A1 => (e = .normal ∨ e = .ret) ∧ ∃ v, resA P fn t1 A1 = some v ∧ K v A1) : CallS P B w0 f args A K := by
  intro Γ M ρ w args' hs hargs
  have hini : AR ρ (args ++ Array.replicate (fn.ntmps - args.size) undef) (args' ++ Array.replicate (fn.ntmps - args'.size) undef) := by
    rw [← hargs.1]
    refine hargs.append (AR.of? rfl fun j v v' h1 h2 => ?_)
    rw [h1] at h2; injection h2 with h2; subst h2
    have : v = undef := by
      rw [Array.getElem?_replicate] at h1
      split at h1
      · injection h1 with h1; exact h1.symm
      · cases h1
    subst this
    exact undef_rel ρ
  refine callsIn_wide.1 (callsIn_of_wp_marks (F := Fence.wide) (n := 0) hf hb trivial (h _ [] Γ M ρ w _ (hs.at none) hini fun e ρ' t1 A1 t2 w' M1 g0 g1 g2 g3 => ?_))
  obtain ⟨he, v, hv, hK⟩ := g0
  have fin : LeavesInM Fence.wide 0 P fn t2 (EndS P B ((w0.but Γ).marked M) ρ K) (M1.map mark ++ []) .returning w' := by
    refine leave_marks (w0 := (w0.at none).but Γ) (M := M) M1 w' g3 fun w2 h2 => ?_
    obtain ⟨v', q1, q2⟩ := resA_sound h2 g2 hv
    exact ⟨v', q2, ρ', v, v', A1, rfl, hK, g1, h2.at w0.rd, q1⟩
  rcases he with rfl | rfl
  · exact fin
  · exact fin
theorem CallS.at {f : FuncId} {args : Array Value} {A : AW} {K : Value → AW → Prop} (h : CallS P B w0 f args A K) (r : Option Nat) : CallS P B (w0.at r) f args A K := by
  intro Γ M ρ w args' hs hargs
  refine (h Γ M ρ w args' (hs.at w0.rd) hargs).mono ?_
  rintro e w' ⟨ρ', v, v', A', g1, g2, g3, g4, g5⟩
  exact ⟨ρ', v, v', A', g1, g2, g3, g4.at r, g5⟩
/-- a loop's record, another one -/
theorem SR.loop {ρ : Ren} {A : AW} {w : World} (h : SR P B w0 ρ A w) {b : Nat} {l : Loop} {i : Info} (hA : A.heap.get b = some ⟨.loop l, false, false⟩) (hi : ρ b = some i) :
    ∃ l' : Loop, w.heap[i.g]? = some (.loop l') ∧ l.state = l'.state ∧ l.pending = l'.pending ∧ ∀ (st : LoopState) (p : Option Code), SR P B w0 ρ (A.put b (some ⟨.loop { l with state := st, pending := p }, false, false⟩)) (w.putObj i.g (.loop { l' with state := st, pending := p })) := by
  obtain ⟨hB, o', hg, hor⟩ := h.blk b _ i hA hi
  cases hor with
  | loop hro hs hp ht hps ha hb =>
    rename_i l'
    have hlt : i.g < w.heap.size := (Array.getElem?_eq_some_iff.1 hg).1
    exact ⟨l', hg, hs, hp, fun st p => h.change hA hi hro (.loop (l := { l with state := st, pending := p }) (l' := { l' with state := st, pending := p }) hro rfl rfl ht hps ha hb) rfl rfl rfl World.putObj_size (World.putObj_heap_same hlt) (fun k hk => World.putObj_heap_other hk)⟩
/-- how a round ends -/
def endR (b : Nat) (K : Value → AW → Prop) (e : AE) (A2 : AW) : Prop := ∃ lp : Loop, A2.heap.get b = some ⟨.loop lp, false, false⟩ ∧ match e with
  | .normal => K (.bool true) (A2.put b (some ⟨.loop { lp with state := .ready, pending := none }, false, false⟩))
  | .ret => K (.bool false) (A2.put b (some ⟨.loop { lp with state := .done, pending := some .ret }, false, false⟩))
  | .exit id => K (.bool false) (A2.put b (some ⟨.loop { lp with state := .done, pending := some (.exit id) }, false, false⟩))
/-- a round -/
theorem RoundW.of {b : Nat} {tmps : Array Value} {assign body : Code} {A : AW} {K : Value → AW → Prop}
    (h : ∀ l, CodeS P B (w0.at (some l)) assign tmps A fun e t1 A1 => e = .normal ∧ ∃ lp : Loop, A1.heap.get b = some ⟨.loop lp, false, false⟩ ∧ lp.state = .ready ∧
      CodeS P B (w0.at (some l)) body t1 (A1.put b (some ⟨.loop { lp with state := .busy, pending := lp.pending }, false, false⟩)) fun e _ A2 => endR b K e A2) : RoundW P B w0 b tmps assign body A K := by
  intro Γ M ρ w tmps' i f hs hi ht
  refine roundIn_of_wpIn (F := Fence.wide) (l := i.g) trivial ?_
  refine h i.g _ [] Γ M ρ w tmps' (hs.at (some i.g)) ht fun e ρ1 t1 A1 t2 w1 M1 g0 g1 g2 g3 => ?_
  obtain ⟨rfl, lp, k1, k2, k3⟩ := g0
  obtain ⟨l', q1, q2, q3, q4⟩ := SR.loop g3 k1 (g1 _ _ hi)
  have hbeg := run_beginRound (P := P) q1 (q2.symm.trans k2)
  refine ⟨_, hbeg, ?_⟩
  have hS := q4 .busy lp.pending
  rw [show ({ l' with state := LoopState.busy, pending := lp.pending } : Loop) = { l' with state := .busy } by rw [q3]] at hS
  refine k3 _ (M1.map mark ++ []) Γ (M1 ++ M) ρ1 _ t2 hS g2 fun e2 ρ2 t3 A3 t4 w4 M2 r0 r1 r2 r3 => ?_
  obtain ⟨lp2, n1, n2⟩ := r0
  obtain ⟨l2, u1, u2, u3, u4⟩ := SR.loop r3 n1 (r1 _ _ (g1 _ _ hi))
  have hun : ∀ {A' : AW} {w' : World}, SR P B ((((w0.at (some i.g)).but Γ)).marked (M2 ++ (M1 ++ M))) ρ2 A' w' → SR P B ((w0.but Γ).marked M) ρ2 A' w' := by
    intro A' w' hq
    rw [← List.append_assoc] at hq
    exact (SR.unmark (w0 := (w0.at (some i.g)).but Γ) hq).at w0.rd
  cases e2 with
  | normal => exact ⟨_, _, run_endRound none u1, ρ2, .bool true, .bool true, _, rfl, n2, Ren.le_trans g1 r1, hun (u4 .ready none), .bool true⟩
  | ret => exact ⟨_, _, run_endRound (some .ret) u1, ρ2, .bool false, .bool false, _, rfl, n2, Ren.le_trans g1 r1, hun (u4 .done (some .ret)), .bool false⟩
  | exit id => exact ⟨_, _, run_endRound (some (.exit id)) u1, ρ2, .bool false, .bool false, _, rfl, n2, Ren.le_trans g1 r1, hun (u4 .done (some (.exit id))), .bool false⟩
/-- how a range over a function goes on, the function having returned -/
def endL (b : Nat) (t : Array Value) (K : AE → Array Value → AW → Prop) (A1 : AW) : Prop := ∃ lp : Loop, A1.heap.get b = some ⟨.loop lp, false, false⟩ ∧ lp.state ≠ .busy ∧ match lp.pending with
  | none => K .normal t (A1.put b (some ⟨.loop { lp with state := .exhausted, pending := lp.pending }, false, false⟩))
  | some .ret => K .ret t (A1.put b (some ⟨.loop { lp with state := .exhausted, pending := lp.pending }, false, false⟩))
  | some (.exit id) => K (.exit id) t (A1.put b (some ⟨.loop { lp with state := .exhausted, pending := lp.pending }, false, false⟩))
  | _ => False
theorem CodeS.range (G : Good P) {g : Operand} {ps : Array Tmp} {assign body : Code} {t : Array Value} {A : AW} {K : AE → Array Value → AW → Prop} (hrd : w0.rd = none) (hx : okX g = true) (hgl : glX w0.gl g = true) {gf : FuncId} {cs : Array Value}
    (hg : ev t g = .func (.func gf) #[] cs) {fn : Func} (hfn : P.funcs[gf]? = some fn) (hbd : fn.body.isSome = true) (hroom : A.room = true)
    (h : CallS P B w0 gf (#[.func (.yield A.next) #[] #[]] ++ cs) (A.add ⟨.loop { state := .ready, pending := none, fn := 0, tmps := t, params := ps, assign, body, defers := 0 }, false, false⟩) fun _ A1 => endL A.next t K A1) :
    CodeS P B w0 (.rangeFunc g ps assign body) t A K := by
  intro Q ds Γ M ρ w t' hs ht hQ
  refine wpIn_rangeFunc fun fn0 _ => ?_
  have hr0 : w0.F.round = none := hrd
  rw [hr0]
  have hev := ev_rel ht hs.glo hx hgl
  rw [hg] at hev
  generalize hz : ev t' g = z at hev
  cases hev with
  | func _ hp p1 p2 p3 p4 =>
    rename_i f' lb
    have hf0 : f' = #[] := Array.eq_empty_of_size_eq_zero p1.symm
    subst hf0
    have heg : (⟨t', ds⟩ : Act).eval g = .func (.func gf) #[] lb := by rw [eval_ev]; exact hz
    have hn := G.names gf fn hfn
    have hnb : fn.body.isNone = false := by
      cases hb2 : fn.body with
      | none => rw [hb2] at hbd; cases hbd
      | some b => rfl
    have eg : ∀ args w, (callFunc gf args).run P w = .ok (.enter gf args) w := by
      intro args w
      simp only [callFunc, Go.program, Bind.bind, Sem.bind, Sem.run, hfn, hn, hnb]
      rfl
    -- the record
    have hs1 := SR.marked hs
    have hrec : ∃ rec : Loop, rec = { state := .ready, pending := none, fn := fn0, tmps := t', params := ps, assign, body, defers := w.heap.size } := ⟨_, rfl⟩
    obtain ⟨rec, hrec⟩ := hrec
    obtain ⟨W1, hW1⟩ : ∃ W1, W1 = (w.alloc (.deferred (some []))).alloc (.loop rec) := ⟨_, rfl⟩
    have hsz : (w.alloc (.deferred (some []))).heap.size = w.heap.size + 1 := by simp
    have hs2 : SR P B ((w0.but Γ).marked (w.heap.size :: M)) (ρ.more A.next ⟨w.heap.size + 1, false, false, 0, 0⟩) (A.add ⟨.loop { state := .ready, pending := none, fn := 0, tmps := t, params := ps, assign, body, defers := 0 }, false, false⟩) W1 := by
      rw [hW1]
      refine hs1.new (o' := .loop rec) (i := ⟨w.heap.size + 1, false, false, 0, 0⟩) hroom rfl rfl rfl (by simp) (by have := Nat.le_trans hs1.low hs1.below.size; rw [hsz] at this; exact this) ?_ ?_ (fun b y j hy hj => by have := hs1.old hy hj; rw [hsz] at this; exact Nat.ne_of_lt this) (fun r hr => by have := hs1.mkOld hr; rw [hsz] at this; exact Nat.ne_of_lt this) ?_
      · have := (Go.MapKept.heap_alloc (w.alloc (.deferred (some []))) (.loop rec)).1
        rw [hsz] at this
        exact this
      · intro k _ hk
        exact (Go.MapKept.heap_alloc (w.alloc (.deferred (some []))) (.loop rec)).2 k hk
      · rw [hrec]
        exact .loop rfl rfl rfl (ht.mono (Ren.le_more hs.fresh)) rfl rfl rfl
    have hle := Ren.le_more (i := ⟨w.heap.size + 1, false, false, 0, 0⟩) hs.fresh
    have hself := Ren.more_self ρ A.next ⟨w.heap.size + 1, false, false, 0, 0⟩
    have hargs : AR (ρ.more A.next ⟨w.heap.size + 1, false, false, 0, 0⟩) (#[.func (.yield A.next) #[] #[]] ++ cs) (#[.func (.yield (w.heap.size + 1)) #[] #[]] ++ lb) :=
      AR.append (AR.one (.yield hself)) (AR.mono hle ⟨p3, p4⟩)
    have hc := h Γ (w.heap.size :: M) (ρ.more A.next ⟨w.heap.size + 1, false, false, 0, 0⟩) W1 _ hs2 hargs
    have hc2 : CallsIn w0.F (0 - 1) P gf (#[.func (.yield (w.heap.size + 1)) #[] #[]] ++ lb) W1 (EndS P B ((w0.but Γ).marked (w.heap.size :: M)) (ρ.more A.next ⟨w.heap.size + 1, false, false, 0, 0⟩) fun _ A1 => endL A.next t K A1) := callsIn_at (m := 0 - 1) w0 hc
    clear hc
    have hdep : w0.F.depth.isSome = true → 1 ≤ 0 := fun e => by cases e
    have hall : ∀ f', Target.leads P W1 (Target.fn (.func gf) lb) #[.func (.yield (w.heap.size + 1)) #[] #[]] = some f' → w0.F.fn f' := fun _ _ => trivial
    refine ⟨w.heap.size + 1, [{ target := .collected w.heap.size, args := #[] }], W1, { target := .fn (.func gf) lb, args := #[.func (.yield (w.heap.size + 1)) #[] #[]] }, W1, gf,
      #[.func (.yield (w.heap.size + 1)) #[] #[]] ++ lb, W1, ?_, ?_, hall, ?_, hdep, ?_⟩
    · rw [hW1, hrec]; exact run_enterLoop_outer _ _ _ _ _
    · simp only [resolve, heg]
      simp [go_sem]
    · simp [invoke, go_sem, eg]
    · refine CallsIn.mono hc2 ?_
      rintro e w3 ⟨ρ', v, v', A1, rfl, ⟨lp, k1, k2, k3⟩, g1, g3, _⟩
      obtain ⟨l', q1, q2, q3, q4⟩ := SR.loop g3 k1 (g1 _ _ hself)
      refine ⟨_, _, run_endLoop q1 (fun e => k2 (q2.trans e)), ?_⟩
      have hS := q4 .exhausted lp.pending
      rw [show ({ l' with state := LoopState.exhausted, pending := lp.pending } : Loop) = { l' with state := .exhausted } by rw [q3]] at hS
      have hQ' : ∀ (e : AE) (A2 : AW) (w4 : World), K e t A2 → SR P B ((w0.but Γ).marked ([w.heap.size] ++ M)) ρ' A2 w4 → Q e.up { tmps := t', defers := [w.heap.size].map mark ++ ds } w4 := fun e A2 w4 hk hS => hQ e ρ' t A2 t' w4 [w.heap.size] hk (Ren.le_trans hle g1) (ht.mono (Ren.le_trans hle g1)) hS
      rw [q3] at k3 hS
      cases hpd : l'.pending with
      | none =>
        rw [hpd] at k3 hS
        exact hQ' .normal _ _ k3 hS
      | some c =>
        rw [hpd] at k3 hS
        cases c with
        | ret => exact wpIn_ret (hQ' .ret _ _ k3 hS)
        | exit id => exact wpIn_exit (hQ' (.exit id) _ _ k3 hS)
        | _ => exact k3.elim
/-- THE WHOLE: a call that the evaluator brings to its end, from nothing -/
theorem whole {f : FuncId} {args : Array Value} {v : Value} {w : World} (h : CallS P w.heap.size ⟨w, fun _ _ => False, fun _ => false, none, []⟩ f args ⟨.leaf, 0⟩ fun u _ => u = v) (hargs : args.all leafFree = true) (hv : free v = true) :
    Calls P f args w fun e w' => e = .returned v ∧ Below w.heap.size w w' := by
  have hs : SR P w.heap.size ((Base.but ⟨w, fun _ _ => False, fun _ => false, none, []⟩ fun _ _ => False).marked []) (fun _ => none) ⟨.leaf, 0⟩ w := ⟨Below.refl _ _, Nat.le_refl _, fun b i hb => (by cases hb), by decide, fun b x hb => (by cases hb), fun b x hb => hb.elim, fun b x i hb => (by cases hb), fun b c x y i j hb => (by cases hb), (fun g hg => by cases hg), List.nodup_nil, fun r hr => by cases hr⟩
  refine (h (fun _ _ => False) [] _ w args hs (all_rel _ hargs)).mono ?_
  rintro e w' ⟨ρ', u, v', A', rfl, rfl, _, g3, g4⟩
  rw [free_eq hv g4]
  exact ⟨rfl, g3.below⟩
end
end Go.Proofs.YtnneooidkbhbeaaGreatDoor.Sim
