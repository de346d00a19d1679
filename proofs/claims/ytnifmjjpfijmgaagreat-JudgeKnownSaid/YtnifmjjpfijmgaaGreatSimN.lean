/- A verified evaluator, part N: code, calls, the whole. Of no program. -/
import Derived.Test.YtnifmjjpfijmgaaGreatSimR
namespace Go.Proofs.YtnifmjjpfijmgaaGreat.Sim
open Go Go.RowKit

/-- how code ends -/
inductive AE where
  | normal
  | exit (id : Nat)
  | ret
def AE.up : AE → Exit
  | .normal => .normal
  | .exit id => .exit id
  | .ret => .ret
def resOne (P : Program) (t : Array Value) (A : AW) : ResultVar → Option Value
  | .tmp i => some (t.getD i undef)
  | .cell a ty => match loadL P A ty (t.getD a undef) with
    | some (_, v) => some v
    | none => none
def resAll (P : Program) (t : Array Value) (A : AW) : List ResultVar → Option (List Value)
  | [] => some []
  | r :: rs => match resOne P t A r, resAll P t A rs with
    | some v, some l => some (v :: l)
    | _, _ => none
def resA (P : Program) (fn : Func) (t : Array Value) (A : AW) : Option Value :=
  match resAll P t A fn.results.toList with
  | some [v] => some v
  | some l => some (.tuple l.toArray)
  | none => none

section
variable {P : Program} {B : Nat} {w0 : Base}
/-- what code does, whatever the world: it runs to an end that K knows of -/
def WpS (P : Program) (B : Nat) (w0 : Base) (X : (Exit → Act → World → Prop) → Act → World → Prop) (t : Array Value) (A : AW) (K : AE → Array Value → AW → Prop) : Prop :=
  ∀ (Q : Exit → Act → World → Prop) (ds : List Deferred) (Γ : Nat → ABk → Prop) (ρ : Ren) (w : World) (t' : Array Value), (∀ c a w, ¬ Q (.panic c) a w) → SR P B (w0.but Γ) ρ A w → AR ρ t t' →
    (∀ e ρ' t1 A1 t2 w', K e t1 A1 → ρ.le ρ' → AR ρ' t1 t2 → SR P B (w0.but Γ) ρ' A1 w' → Q e.up ⟨t2, ds⟩ w') → X Q ⟨t', ds⟩ w
def CodeS (P : Program) (B : Nat) (w0 : Base) (c : Code) : Array Value → AW → (AE → Array Value → AW → Prop) → Prop := WpS P B w0 (c.wp P)
theorem CodeS.done {c : Code} {e : AE} (hw : ∀ {Q : Exit → Act → World → Prop} {a : Act} {w : World}, Q e.up a w → c.wp P Q a w) {t : Array Value} {A : AW} {K : AE → Array Value → AW → Prop} (h : K e t A) : CodeS P B w0 c t A K :=
  fun _ _ _ ρ w t' _ hs ht hQ => hw (hQ e ρ t A t' w h (Ren.le_refl _) ht hs)
theorem CodeS.skip {t : Array Value} {A : AW} {K : AE → Array Value → AW → Prop} (h : K .normal t A) : CodeS P B w0 .skip t A K := CodeS.done (e := .normal) (fun h => wp_skip h) h
theorem CodeS.label {l : Nat} {t : Array Value} {A : AW} {K : AE → Array Value → AW → Prop} (h : K .normal t A) : CodeS P B w0 (.label l) t A K := CodeS.done (e := .normal) (fun h => wp_label h) h
theorem CodeS.exit {id : Nat} {t : Array Value} {A : AW} {K : AE → Array Value → AW → Prop} (h : K (.exit id) t A) : CodeS P B w0 (.exit id) t A K := CodeS.done (e := .exit id) (fun h => wp_exit h) h
theorem CodeS.ret {t : Array Value} {A : AW} {K : AE → Array Value → AW → Prop} (h : K .ret t A) : CodeS P B w0 .ret t A K := CodeS.done (e := .ret) (fun h => wp_ret h) h
theorem CodeS.region (G : Good P) {id : Nat} {ops : Array Oper} {t : Array Value} {A : AW} {K : AE → Array Value → AW → Prop} (h : ∀ Γ, opsW P B (w0.but Γ) ops (K .normal) (List.range ops.size) t A) : CodeS P B w0 (.region id ops false) t A K :=
  fun _ ds Γ ρ w t' _ hs ht hQ => wp_region (opsW_sound G ds _ ρ A w t t' hs ht (h Γ) fun ρ' tf Af t2 w' g0 g1 g2 g3 => hQ .normal ρ' tf Af t2 w' g0 g1 g2 g3)
theorem CodeS.drawn (G : Good P) {id : Nat} {ops : Array Oper} {anc : Nat → Nat} {s : List PS} (hanc : ancOk ops anc = true) (hok : okPlan ops anc s 0 = true) {t : Array Value} {A : AW} {K : AE → Array Value → AW → Prop} (h : ∀ Γ, planW P B (w0.but Γ) ops (K .normal) s t A) : CodeS P B w0 (.region id ops true) t A K :=
  fun _ ds Γ _ _ _ _ hs ht hQ => region_any G hanc ds hs ht hok (h Γ) fun ρ' tf Af t2 w' g0 g1 g2 g3 => hQ .normal ρ' tf Af t2 w' g0 g1 g2 g3
theorem CodeS.seq {a b : Code} {t : Array Value} {A : AW} {K : AE → Array Value → AW → Prop} (h : CodeS P B w0 a t A fun e t1 A1 => match e with
    | .normal => CodeS P B w0 b t1 A1 K
    | e => K e t1 A1) : CodeS P B w0 (.seq a b) t A K :=
  fun Q ds Γ ρ w t' hnp hs ht hQ => wp_seq (h (Exit.then (b.wp P Q) Q) ds Γ ρ w t' (fun c a w => hnp c a w) hs ht fun e ρ' t1 A1 t2 w' g0 g1 g2 g3 => by
    cases e with
    | normal => exact g0 Q ds Γ ρ' w' t2 hnp g3 g2 fun e2 ρ2 t3 A3 t4 w4 q0 q1 q2 q3 => hQ e2 ρ2 t3 A3 t4 w4 q0 (Ren.le_trans g1 q1) q2 q3
    | exit id => exact hQ (.exit id) ρ' t1 A1 t2 w' g0 g1 g2 g3
    | ret => exact hQ .ret ρ' t1 A1 t2 w' g0 g1 g2 g3)
theorem CodeS.cond {x : Operand} {a b : Code} {t : Array Value} {A : AW} {K : AE → Array Value → AW → Prop} (hx : okX x = true) (hg : glX w0.gl x = true) {q : Bool} (hv : ev t x = .bool q) (h : (bif q then CodeS P B w0 a t A K else CodeS P B w0 b t A K)) : CodeS P B w0 (.cond x a b) t A K :=
  fun Q ds Γ ρ w t' hnp hs ht hQ => by
    have hr := ev_rel ht hs.glo hx hg
    rw [hv] at hr
    cases q with
    | true => exact wp_cond_true (by rw [eval_ev]; generalize ev t' x = z at hr; cases hr; rfl) (h Q ds Γ ρ w t' hnp hs ht hQ)
    | false => exact wp_cond_false (by rw [eval_ev]; generalize ev t' x = z at hr; cases hr; rfl) (h Q ds Γ ρ w t' hnp hs ht hQ)
theorem CodeS.block {id : Nat} {b : Code} {t : Array Value} {A : AW} {K : AE → Array Value → AW → Prop} (h : CodeS P B w0 b t A fun e t1 A1 => match e with
    | .exit i => bif Nat.beq i id then K .normal t1 A1 else K (.exit i) t1 A1
    | e => K e t1 A1) : CodeS P B w0 (.block id b) t A K :=
  fun Q ds Γ ρ w t' hnp hs ht hQ => wp_block (h (Exit.inBlock id Q) ds Γ ρ w t' (fun c a w => hnp c a w) hs ht fun e ρ' t1 A1 t2 w' g0 g1 g2 g3 => by
    cases e with
    | normal => exact hQ .normal ρ' t1 A1 t2 w' g0 g1 g2 g3
    | ret => exact hQ .ret ρ' t1 A1 t2 w' g0 g1 g2 g3
    | exit i =>
      show (if i = id then Q .normal _ w' else Q (.exit i) _ w')
      dsimp only at g0
      by_cases hid : i = id
      · rw [if_pos hid]; rw [Tr.beq_iff.2 hid, cond_true] at g0; exact hQ .normal ρ' t1 A1 t2 w' g0 g1 g2 g3
      · rw [if_neg hid]; rw [Tr.beq_false hid, cond_false] at g0; exact hQ (.exit i) ρ' t1 A1 t2 w' g0 g1 g2 g3)
theorem CodeS.scope {b : Code} {t : Array Value} {A : AW} {K : AE → Array Value → AW → Prop} (h : CodeS P B w0 b t A K) : CodeS P B w0 (.scope b) t A K :=
  fun Q ds Γ ρ w t' hnp hs ht hQ => wp_scope_straight (h (Exit.noGoto Q) ds Γ ρ w t' (fun c a w => hnp c a w) hs ht fun e ρ' t1 A1 t2 w' g0 g1 g2 g3 => by
    have := hQ e ρ' t1 A1 t2 w' g0 g1 g2 g3
    cases e <;> exact this)
/-- so many rounds of a loop at most -/
def RoundS (P : Program) (B : Nat) (w0 : Base) (b : Code) (n : Nat) : Array Value → AW → (AE → Array Value → AW → Prop) → Prop := WpS P B w0 (fun Q => Code.rounds P b Q n)
theorem RoundS.succ {b : Code} {n : Nat} {t : Array Value} {A : AW} {K : AE → Array Value → AW → Prop} (h : CodeS P B w0 b t A fun e t1 A1 => match e with
    | .normal => RoundS P B w0 b n t1 A1 K
    | e => K e t1 A1) : RoundS P B w0 b (n + 1) t A K :=
  fun Q ds Γ ρ w t' hnp hs ht hQ => by
    show Code.rounds P b Q (n + 1) ⟨t', ds⟩ w
    rw [rounds_succ]
    refine h (Exit.then (Code.rounds P b Q n) Q) ds Γ ρ w t' (fun c a w => hnp c a w) hs ht fun e ρ' t1 A1 t2 w' g0 g1 g2 g3 => ?_
    cases e with
    | normal => exact g0 Q ds Γ ρ' w' t2 hnp g3 g2 fun e2 ρ2 t3 A3 t4 w4 q0 q1 q2 q3 => hQ e2 ρ2 t3 A3 t4 w4 q0 (Ren.le_trans g1 q1) q2 q3
    | exit id => exact hQ (.exit id) ρ' t1 A1 t2 w' g0 g1 g2 g3
    | ret => exact hQ .ret ρ' t1 A1 t2 w' g0 g1 g2 g3
theorem CodeS.loop {b : Code} (n : Nat) {t : Array Value} {A : AW} {K : AE → Array Value → AW → Prop} (h : RoundS P B w0 b n t A K) : CodeS P B w0 (.loop b) t A K :=
  fun Q ds Γ ρ w t' hnp hs ht hQ => wp_loop_rounds n (h Q ds Γ ρ w t' hnp hs ht hQ)
theorem getD_rel {ρ : Ren} {t t' : Array Value} (h : AR ρ t t') (i : Nat) : VR ρ (t.getD i undef) (t'.getD i undef) := ev_rel (x := .tmp i) (gl := fun _ => false) h (fun g hg => by cases hg) rfl rfl
def resF (t : Array Value) : ResultVar → Sem Value
  | .tmp i => pure (t.getD i undef)
  | .cell a ty => do loadVar ty (← asAddr (t.getD a undef))
theorem mapM_run {f : ResultVar → Sem Value} {r : ResultVar} {rs : List ResultVar} {w : World} {v : Value} {l : List Value} (h1 : (f r).run P w = .ok v w) (h2 : (rs.mapM f).run P w = .ok l w) : ((r :: rs).mapM f).run P w = .ok (v :: l) w := by
  rw [List.mapM_cons]
  simp only [Bind.bind]
  rw [run_bind P _ _ w w v h1, run_bind P _ _ w w l h2]
  rfl
theorem resAll_sound {ρ : Ren} {A : AW} {w : World} {t t' : Array Value} (h : SR P B w0 ρ A w) (ht : AR ρ t t') : ∀ (rs : List ResultVar) (l : List Value), resAll P t A rs = some l →
    ∃ l', LR ρ l l' ∧ (rs.mapM (resF t')).run P w = .ok l' w
  | [], l, hl => by
    simp only [resAll] at hl
    injection hl with hl; subst hl
    exact ⟨[], LR.nil ρ, by rw [List.mapM_nil]; rfl⟩
  | r :: rs, l, hl => by
    simp only [resAll] at hl
    split at hl
    · rename_i v l2 h1 h2
      injection hl with hl; subst hl
      obtain ⟨l', g1, g2⟩ := resAll_sound h ht rs l2 h2
      cases r with
      | tmp i =>
        simp only [resOne] at h1
        injection h1 with h1; subst h1
        exact ⟨_ :: l', LR.cons (getD_rel ht i) g1, mapM_run rfl g2⟩
      | cell a ty =>
        simp only [resOne] at h1
        split at h1
        · rename_i hd v2 hx
          injection h1 with h1; subst h1
          obtain ⟨b, o, ll⟩ := hd
          have hp := getD_rel ht a
          obtain ⟨i2, l3, v', q1, q2, q3, q4, q5⟩ := loadL_sound h hp hx
          have hrun := q5 w q3
          have hpp : ∃ ad, t'.getD a undef = .pointer (some ad) := by
            generalize t'.getD a undef = z at hp
            generalize t.getD a undef = y at hp hx
            cases hp with
            | ptr => exact ⟨_, rfl⟩
            | _ => cases hx
          obtain ⟨ad, had⟩ := hpp
          rw [had] at hrun
          refine ⟨v' :: l', LR.cons q4 g1, mapM_run ?_ g2⟩
          show (do loadVar ty (← asAddr (t'.getD a undef)) : Sem Value).run P w = _
          rw [had]
          exact hrun
        · cases h1
    · cases hl
theorem resA_sound {ρ : Ren} {A : AW} {w : World} {t t' : Array Value} (h : SR P B w0 ρ A w) (ht : AR ρ t t') {fn : Func} {v : Value} (hv : resA P fn t A = some v) : ∃ v', VR ρ v v' ∧ (results fn t').run P w = .ok v' w := by
  unfold resA at hv
  cases hl : resAll P t A fn.results.toList with
  | none => rw [hl] at hv; cases hv
  | some l =>
    obtain ⟨l', g1, g2⟩ := resAll_sound h ht _ l hl
    have hm : (fn.results.mapM (resF t')).run P w = .ok l'.toArray w := by
      rw [Array.mapM_eq_mapM_toList]
      show (Sem.bind _ _).run P w = _
      exact (run_bind P _ _ w w l' g2).trans rfl
    rw [hl] at hv
    have hF : results fn t' = (fn.results.mapM (resF t') >>= fun vs => pure (if h : vs.size = 1 then vs[0] else .tuple vs)) := by
      unfold results
      congr 1
    have hres : (results fn t').run P w = .ok (if h : l'.toArray.size = 1 then l'.toArray[0] else .tuple l'.toArray) w := by
      rw [hF]
      show (Sem.bind _ _).run P w = _
      exact (run_bind P _ _ w w l'.toArray hm).trans rfl
    have hlen := g1.1
    match l, l', g1, hlen, hv, hres with
    | [x], [y], g1, _, hv, hres =>
      injection hv with hv; subst hv
      exact ⟨y, g1.2 0 x y rfl rfl, hres⟩
    | [], [], g1, _, hv, hres =>
      injection hv with hv; subst hv
      exact ⟨_, VR.mkTuple g1.toAR, hres⟩
    | x1 :: x2 :: xs, y1 :: y2 :: ys, g1, _, hv, hres =>
      injection hv with hv; subst hv
      exact ⟨_, VR.mkTuple g1.toAR, hres⟩

/-- a call -/
theorem CallS.of (G : Good P) {f : FuncId} {fn : Func} {c : Code} (hf : P.funcs[f]? = some fn) (hb : fn.body = some c) {args : Array Value} {A : AW} {K : Value → AW → Prop}
    (h : CodeS P B w0 c (args ++ Array.replicate (fn.ntmps - args.size) undef) A fun e t1 A1 => (e = .normal ∨ e = .ret) ∧ ∃ v, resA P fn t1 A1 = some v ∧ K v A1) : CallS P B w0 f args A K := by
  intro Γ ρ w args' hs hargs
  have hini : AR ρ (args ++ Array.replicate (fn.ntmps - args.size) undef) (args' ++ Array.replicate (fn.ntmps - args'.size) undef) := by
    rw [← hargs.1]
    refine hargs.append (AR.of? rfl fun j v v' h1 h2 => ?_)
    rw [h1] at h2; injection h2 with h2; subst h2
    have : v = undef := by
      rw [Array.getElem?_replicate] at h1
      split at h1
      · injection h1 with h1; exact h1.symm
      · cases h1
    subst this
    exact undef_rel ρ
  refine calls_of_wp hf hb (h _ [] Γ ρ w _ ?_ hs hini fun e ρ' t1 A1 t2 w' g0 g1 g2 g3 => ?_)
  · rintro ch a w2 ⟨_, ρ', v, v', A', hq, _⟩
    cases hq
  · obtain ⟨he, v, hv, hK⟩ := g0
    obtain ⟨v', q1, q2⟩ := resA_sound g3 g2 hv
    rcases he with rfl | rfl
    · exact ⟨rfl, v', q2, ρ', v, v', A1, rfl, hK, g1, g3, q1⟩
    · exact ⟨rfl, v', q2, ρ', v, v', A1, rfl, hK, g1, g3, q1⟩
/-- THE WHOLE: a call that the evaluator brings to its end, from nothing -/
theorem whole {f : FuncId} {args : Array Value} {v : Value} {w : World} (h : CallS P w.heap.size ⟨w, fun _ _ => False, fun _ => false⟩ f args ⟨.leaf, 0⟩ fun u _ => u = v) (hargs : args.all leafFree = true) (hv : free v = true) :
    Calls P f args w fun e w' => e = .returned v ∧ Below w.heap.size w w' := by
  have hs : SR P w.heap.size (Base.but ⟨w, fun _ _ => False, fun _ => false⟩ fun _ _ => False) (fun _ => none) ⟨.leaf, 0⟩ w := ⟨Below.refl _ _, Nat.le_refl _, fun b i hb => (by cases hb), by decide, fun b x hb => (by cases hb), fun b x hb => hb.elim, fun b x i hb => (by cases hb), fun b c x y i j hb => (by cases hb), fun g hg => by cases hg⟩
  refine (h (fun _ _ => False) _ w args hs (all_rel _ hargs)).mono ?_
  rintro e w' ⟨ρ', u, v', A', rfl, rfl, _, g3, g4⟩
  rw [free_eq hv g4]
  exact ⟨rfl, g3.below⟩
end
end Go.Proofs.YtnifmjjpfijmgaaGreat.Sim
