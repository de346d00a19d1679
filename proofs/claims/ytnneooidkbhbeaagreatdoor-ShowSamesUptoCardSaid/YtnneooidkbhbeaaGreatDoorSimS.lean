/- A verified evaluator, part S: calls that are deferred. Of no program. -/
import Derived.Test.YtnneooidkbhbeaaGreatDoorSimN
set_option linter.unusedVariables false
set_option linter.unusedSimpArgs false
namespace Go.Proofs.YtnneooidkbhbeaaGreatDoor.Sim
open Go Go.RowKit

section
variable {P : Program} {F : Fence} {n : Nat}
/-- a frame on its way out whose deferred calls are marks alone -/
def DrainM (P : Program) (fn : Func) (tmps : Array Value) (R : Ending → World → Prop) : List Deferred → World → Prop
  | [], w => ∃ v, (results fn tmps).run P w = .ok v w ∧ R (.returned v) w
  | d :: ds, w => ∃ r w', d.target = .collected r ∧ (Instr.takeDeferred r).run P w = .ok [] w' ∧ DrainM P fn tmps R ds w'
theorem drain_steps {fn : Func} {tmps : Array Value} {R : Ending → World → Prop} : ∀ (ds : List Deferred) (w : World) (fr : Frame) (cs : List Frame), fr.mode = .returning → fr.defers = ds → F.fn fr.fn → F.room (cs.length + 1 + n) → DrainM P fn tmps R ds w →
    ∃ v w', R (.returned v) w' ∧ StepsIn (Machine.fenced P F) P (lone fr cs w) (lone { fr with defers := [] } cs w') ∧ (results fn tmps).run P w' = .ok v w'
  | [], w, fr, cs, _, hd, _, _, ⟨v, h1, h2⟩ => ⟨v, w, h2, by
      have : { fr with defers := [] } = fr := by cases fr; simp_all
      rw [this]
      exact .refl _, h1⟩
  | d :: ds, w, fr, cs, hm, hd, hF, hroom, ⟨r, w1, ht, hk, hrest⟩ => by
    have hrun : fr.mode ≠ .run := by rw [hm]; intro e; cases e
    have h1 := step_collected (cs := cs) hrun hd ht hk
    have i1 : (lone fr cs w).fenced P F := fenced_out hF hroom hrun hd (fun g hg => by rw [ht] at hg; simp [Target.leads] at hg)
    obtain ⟨v, w', g1, g2, g3⟩ := drain_steps ds w1 { fr with defers := [] ++ ds } cs hm rfl hF hroom hrest
    exact ⟨v, w', g1, .head i1 h1 g2, g3⟩
def postD (P : Program) (fn : Func) (R : Ending → World → Prop) : Exit → Act → World → Prop
  | .normal, a, w | .ret, a, w => DrainM P fn a.tmps R a.defers w
  | _, _, _ => False
/-- a function whose body leaves marks alone, entered as a deferred call -/
theorem callsDIn_marks {f : FuncId} {fn : Func} {c : Code} {args : Array Value} {w : World} {R : Ending → World → Prop} (hf : P.funcs[f]? = some fn) (hb : fn.body = some c) (hF : F.fn f)
    (h : c.wpIn F n P (postD P fn R) { tmps := args ++ Array.replicate (fn.ntmps - args.size) undef, defers := [] } w) (hro : F.round = none := by rfl) :
    CallsDIn F n P f args .returning w fun e u' w' => u' = .returning ∧ R e w' := by
  refine ⟨hF, fun c₀ cs hu hr => ?_⟩
  let b : Frame := { (default : Frame) with fn := f, kind := .deferred, roundOf := none }
  have henter : Frame.enter P f args .deferred =
      b.atR { tmps := args ++ Array.replicate (fn.ntmps - args.size) undef, defers := [] } [.code c] := by
    simp [Frame.enter, Frame.atR, hf, hb, b]
  have hc : ({ c₀ with mode := .returning } : Frame) = c₀ := by rw [← hu]
  obtain ⟨e, a', w', hq, harr⟩ := h b [] (c₀ :: cs) hro.symm hF hr
  rw [← henter] at harr
  cases e with
  | normal =>
    obtain ⟨v, w2, g1, g2, g3⟩ := drain_steps (F := F) (n := n) a'.defers w' { b.atR a' [] with mode := .returning } (c₀ :: cs) rfl rfl hF hr hq
    exact ⟨.returned v, .returning, w2, _, ⟨rfl, g1⟩, (by rw [hc]; exact (StepsIn.trans harr (.one (fenced_calm (fr := b.atR a' []) hF hr rfl) (stepR_end rfl))).trans g2), rfl, rfl, rfl, rfl, fn, hf, g3⟩
  | ret =>
    obtain ⟨todo, hs⟩ := harr.1 rfl
    obtain ⟨v, w2, g1, g2, g3⟩ := drain_steps (F := F) (n := n) a'.defers w' { b.atR a' todo with mode := .returning } (c₀ :: cs) rfl rfl hF hr hq
    exact ⟨.returned v, .returning, w2, _, ⟨rfl, g1⟩, (by rw [hc]; exact hs.trans g2), rfl, rfl, rfl, rfl, fn, hf, g3⟩
  | panic chain => exact hq.elim
  | exit id => exact hq.elim
  | goto l => exact hq.elim
  | outgrown => exact hq.elim
theorem upon_mono {o : Oper} {a : Act} {next next' : Act → World → Prop} {Q Q' : Exit → Act → World → Prop} (hn : ∀ a w, next a w → next' a w) (hp : ∀ c a w, Q (.panic c) a w → Q' (.panic c) a w) (ho : ∀ a w, Q .outgrown a w → Q' .outgrown a w)
    {r : Result Next} (h : o.uponIn F n P a next Q r) : o.uponIn F n P a next' Q' r := by
  have hl : LetsOut Q → LetsOut Q' := fun ⟨a, w, q⟩ => ⟨a, w, ho a w q⟩
  unfold Oper.uponIn at h ⊢
  split at h
  · exact hn _ _ h
  · exact hn _ _ h
  · exact hn _ _ h
  · refine ⟨h.1, h.2.mono fun e w' q => ?_⟩
    cases e with
    | returned v => exact hn _ _ q
    | panicked c => exact hp _ _ _ q
    | outgrown => exact hl q
  · exact ⟨h.1, h.2.mono fun v w' q => hn _ _ q⟩
  · refine ⟨h.1, h.2.mono fun e w' q => ?_⟩
    cases e with
    | returned v => exact hn _ _ q
    | panicked c => exact hp _ _ _ q
    | outgrown => exact hl q
  · exact hp _ _ _ h
  · exact h.elim
/-- one operation behind others -/
theorem wpOps_app {ops : Array Oper} {Q : Exit → Act → World → Prop} {j : Nat} : ∀ (l : List Nat) (a : Act) (w : World),
    wpOpsIn F n P ops (fun e a w => match e with | .normal => wpOpsIn F n P ops Q [j] a w | e => Q e a w) l a w → wpOpsIn F n P ops Q (l ++ [j]) a w
  | [], a, w, h => h
  | i :: l, a, w, h => by
    rw [List.cons_append]
    simp only [wpOpsIn] at h ⊢
    cases ho : ops[i]? with
    | none => rw [ho] at h; exact wpOps_app l a w h
    | some o =>
      rw [ho] at h
      dsimp only at h ⊢
      split at h
      · rename_i hw
        rw [if_pos hw]
        exact ⟨h.1, upon_mono (fun a w q => wpOps_app l a w q) (fun _ _ _ q => q) (fun _ _ q => q) h.2⟩
      · rename_i hw
        rw [if_neg hw]
        exact ⟨h.1, wpOps_app l _ _ h.2⟩
end

section
variable {P : Program} {B : Nat} {w0 : Base}
/-- a deferred call's end -/
def CallD (P : Program) (B : Nat) (w0 : Base) (f : FuncId) (args : Array Value) (A : AW) (K : Value → AW → Prop) : Prop :=
  ∀ (Γ : Nat → ABk → Prop) (M : List Nat) (ρ : Ren) (w : World) (args' : Array Value), SR P B ((w0.but Γ).marked M) ρ A w → AR ρ args args' →
    CallsDIn Fence.wide 0 P f args' .returning w fun e u' w' => u' = .returning ∧ EndS P B ((w0.but Γ).marked M) ρ K e w'
theorem drain_marks {ρ : Ren} {A : AW} {fn : Func} {tmps : Array Value} {R : Ending → World → Prop} {M : List Nat} : ∀ (M1 : List Nat) (w : World), SR P B (w0.marked (M1 ++ M)) ρ A w → (∀ w2, SR P B (w0.marked M) ρ A w2 → ∃ v, (results fn tmps).run P w2 = .ok v w2 ∧ R (.returned v) w2) →
    DrainM P fn tmps R (M1.map mark ++ []) w
  | [], w, h, hE => hE w h
  | r :: M1, w, h, hE => ⟨r, _, rfl, run_takeDeferred (h.marks.2 r (.head _)).2.1, drain_marks M1 _ (SR.taken h) hE⟩
theorem CallD.of (G : Good P) {f : FuncId} {fn : Func} {c : Code} (hf : P.funcs[f]? = some fn) (hb : fn.body = some c) {args : Array Value} {A : AW} {K : Value → AW → Prop}
    (h : CodeS P B (w0.at none) c (args ++ Array.replicate (fn.ntmps - args.size) undef) A fun e t1 A1 => (e = .normal ∨ e = .ret) ∧ ∃ v, resA P fn t1 A1 = some v ∧ K v A1) : CallD P B w0 f args A K := by
  intro Γ M ρ w args' hs hargs
  have hini : AR ρ (args ++ Array.replicate (fn.ntmps - args.size) undef) (args' ++ Array.replicate (fn.ntmps - args'.size) undef) := by
    rw [← hargs.1]
    refine hargs.append (AR.of? rfl fun j v v' h1 h2 => ?_)
    rw [h1] at h2; injection h2 with h2; subst h2
    have : v = undef := by
      rw [Array.getElem?_replicate] at h1
      split at h1
      · injection h1 with h1; exact h1.symm
      · cases h1
    subst this
    exact undef_rel ρ
  refine callsDIn_marks (F := Fence.wide) (n := 0) hf hb trivial (h _ [] Γ M ρ w _ (hs.at none) hini fun e ρ' t1 A1 t2 w' M1 g0 g1 g2 g3 => ?_)
  obtain ⟨he, v, hv, hK⟩ := g0
  have fin : DrainM P fn t2 (EndS P B ((w0.but Γ).marked M) ρ K) (M1.map mark ++ []) w' := by
    refine drain_marks (w0 := (w0.at none).but Γ) (M := M) M1 w' g3 fun w2 h2 => ?_
    obtain ⟨v', q1, q2⟩ := resA_sound h2 g2 hv
    exact ⟨v', q2, ρ', v, v', A1, rfl, hK, g1, h2.at w0.rd, q1⟩
  rcases he with rfl | rfl
  · exact fin
  · exact fin

/-- a call that waits: its function, and all that it is given -/
structure DC where
  g : FuncId
  args : Array Value
def DefR (P : Program) (ρ : Ren) (d : DC) (x : Deferred) : Prop := ∃ fv cap as, x.target = .fn fv cap ∧ (∀ w, (invoke x.target x.args).run P w = .ok (.enter d.g as) w) ∧ AR ρ d.args as
inductive DsR (P : Program) (ρ : Ren) : List DC → List Nat → List Deferred → Prop
  | nil : DsR P ρ [] [] []
  | mk (r : Nat) {D : List DC} {M : List Nat} {l : List Deferred} (h : DsR P ρ D M l) : DsR P ρ D (r :: M) (mark r :: l)
  | call {d : DC} {x : Deferred} {D : List DC} {M : List Nat} {l : List Deferred} (hx : DefR P ρ d x) (h : DsR P ρ D M l) : DsR P ρ (d :: D) M (x :: l)
theorem DefR.mono {ρ ρ' : Ren} (hle : ρ.le ρ') {d : DC} {x : Deferred} (h : DefR P ρ d x) : DefR P ρ' d x := by
  obtain ⟨fv, cap, as, h1, h2, h3⟩ := h
  exact ⟨fv, cap, as, h1, h2, h3.mono hle⟩
theorem DsR.mono {ρ ρ' : Ren} (hle : ρ.le ρ') {D : List DC} {M : List Nat} {l : List Deferred} (h : DsR P ρ D M l) : DsR P ρ' D M l := by
  induction h with
  | nil => exact .nil
  | mk r _ ih => exact .mk r ih
  | call hx _ ih => exact .call (hx.mono hle) ih
theorem DsR.marks (ρ : Ren) : ∀ (M : List Nat), DsR P ρ [] M (M.map mark)
  | [] => .nil
  | r :: M => .mk r (DsR.marks ρ M)
theorem DsR.app {ρ : Ren} {D D' : List DC} {M M' : List Nat} {l l' : List Deferred} (h : DsR P ρ D M l) (h' : DsR P ρ D' M' l') : DsR P ρ (D ++ D') (M ++ M') (l ++ l') := by
  induction h with
  | nil => exact h'
  | mk r _ ih => exact .mk r ih
  | call hx _ ih => exact .call hx ih
/-- code that may defer calls -/
def CodeD (P : Program) (B : Nat) (w0 : Base) (c : Code) (t : Array Value) (A : AW) (K : AE → Array Value → AW → List DC → Prop) : Prop :=
  ∀ (Q : Exit → Act → World → Prop) (ds : List Deferred) (Γ : Nat → ABk → Prop) (M : List Nat) (ρ : Ren) (w : World) (t' : Array Value), SR P B ((w0.but Γ).marked M) ρ A w → AR ρ t t' →
    (∀ e ρ' t1 A1 t2 w' M' D l, K e t1 A1 D → ρ.le ρ' → AR ρ' t1 t2 → SR P B ((w0.but Γ).marked (M' ++ M)) ρ' A1 w' → DsR P ρ' D M' l → Q e.up ⟨t2, l ++ ds⟩ w') → c.wpIn w0.F 0 P Q ⟨t', ds⟩ w
theorem CodeD.of {c : Code} {t : Array Value} {A : AW} {K : AE → Array Value → AW → List DC → Prop} (h : CodeS P B w0 c t A fun e t1 A1 => K e t1 A1 []) : CodeD P B w0 c t A K :=
  fun Q ds Γ M ρ w t' hs ht hQ => h Q ds Γ M ρ w t' hs ht fun e ρ' t1 A1 t2 w' M' g0 g1 g2 g3 => hQ e ρ' t1 A1 t2 w' M' [] _ g0 g1 g2 g3 (DsR.marks ρ' M')
theorem CodeD.mono {c : Code} {t : Array Value} {A : AW} {K K' : AE → Array Value → AW → List DC → Prop} (h : CodeD P B w0 c t A K) (hK : ∀ e t A D, K e t A D → K' e t A D) : CodeD P B w0 c t A K' :=
  fun Q ds Γ M ρ w t' hs ht hQ => h Q ds Γ M ρ w t' hs ht fun e ρ' t1 A1 t2 w' M' D l g0 g1 g2 g3 g4 => hQ e ρ' t1 A1 t2 w' M' D l (hK _ _ _ _ g0) g1 g2 g3 g4
theorem CodeD.seq {a b : Code} {t : Array Value} {A : AW} {K : AE → Array Value → AW → List DC → Prop} (h : CodeD P B w0 a t A fun e t1 A1 D => match e with
    | .normal => CodeD P B w0 b t1 A1 fun e2 t2 A2 D2 => K e2 t2 A2 (D2 ++ D)
    | e => K e t1 A1 D) : CodeD P B w0 (.seq a b) t A K :=
  fun Q ds Γ M ρ w t' hs ht hQ => wpIn_seq (h (Exit.then (b.wpIn w0.F 0 P Q) Q) ds Γ M ρ w t' hs ht fun e ρ' t1 A1 t2 w' M1 D l g0 g1 g2 g3 g4 => by
    cases e with
    | normal =>
      refine g0 Q (l ++ ds) Γ (M1 ++ M) ρ' w' t2 g3 g2 fun e2 ρ2 t3 A3 t4 w4 M2 D2 l2 q0 q1 q2 q3 q4 => ?_
      have := hQ e2 ρ2 t3 A3 t4 w4 (M2 ++ M1) (D2 ++ D) (l2 ++ l) q0 (Ren.le_trans g1 q1) q2 (by rw [List.append_assoc]; exact q3) (q4.app (g4.mono q1))
      rw [List.append_assoc] at this
      exact this
    | exit id => exact hQ (.exit id) ρ' t1 A1 t2 w' M1 D l g0 g1 g2 g3 g4
    | ret => exact hQ .ret ρ' t1 A1 t2 w' M1 D l g0 g1 g2 g3 g4)
/-- the calls that wait, on the way out -/
def LeaveD (P : Program) (B : Nat) (w0 : Base) : List DC → AW → (AW → Prop) → Prop
  | [], A, K => K A
  | d :: D, A, K => CallD P B w0 d.g d.args A fun _ A' => LeaveD P B w0 D A' K
theorem leave_all {fn : Func} {R : Ending → World → Prop} {Γ : Nat → ABk → Prop} {M : List Nat} {Kf : AW → Prop} {t1 t2 : Array Value} {D : List DC} {M1 : List Nat} {l : List Deferred} {ρ : Ren} (hd : DsR P ρ D M1 l) :
    ∀ {ρ' : Ren} {A : AW} {w : World}, ρ.le ρ' → AR ρ' t1 t2 → SR P B ((w0.but Γ).marked (M1 ++ M)) ρ' A w → LeaveD P B w0 D A Kf →
      (∀ ρ2 A2 w2, Kf A2 → ρ'.le ρ2 → AR ρ2 t1 t2 → SR P B ((w0.but Γ).marked M) ρ2 A2 w2 → LeavesIn Fence.wide 0 P fn t2 R [] .returning w2) → LeavesInM Fence.wide 0 P fn t2 R (l ++ []) .returning w := by
  induction hd with
  | nil => exact fun {ρ'} {A} {w} _ ht h hl hE => hE ρ' A w hl (Ren.le_refl _) ht h
  | mk r _ ih => exact fun hle ht h hl hE => ⟨(by intro e; cases e), .inl ⟨r, _, rfl, run_takeDeferred (h.marks.2 r (.head _)).2.1, ih hle ht (SR.taken h) hl hE⟩⟩
  | call hx _ ih =>
    intro ρ' A w hle ht h hl hE
    obtain ⟨fv, cap, as, h1, h2, h3⟩ := hx.mono hle
    refine ⟨(by intro e; cases e), .inr ⟨fun q => (by cases q), fv, cap, _, as, h1, h2 w, fun _ _ => trivial, (hl Γ _ ρ' w as h h3).mono ?_⟩⟩
    rintro e u' w' ⟨rfl, ρ2, v, v', A2, rfl, q1, q2, q3, _⟩
    exact ih (Ren.le_trans hle q2) (ht.mono q2) q3 q1 fun ρ3 A3 w3 p1 p2 p3 p4 => hE ρ3 A3 w3 p1 (Ren.le_trans q2 p2) p3 p4
/-- a call of a function that defers -/
theorem CallS.ofD (G : Good P) {f : FuncId} {fn : Func} {c : Code} (hf : P.funcs[f]? = some fn) (hb : fn.body = some c) {args : Array Value} {A : AW} {K : Value → AW → Prop}
    (h : CodeD P B (w0.at none) c (args ++ Array.replicate (fn.ntmps - args.size) undef) A fun e t1 A1 D => (e = .normal ∨ e = .ret) ∧ LeaveD P B (w0.at none) D A1 fun A2 => ∃ v, resA P fn t1 A2 = some v ∧ K v A2) : CallS P B w0 f args A K := by
  intro Γ M ρ w args' hs hargs
  have hini : AR ρ (args ++ Array.replicate (fn.ntmps - args.size) undef) (args' ++ Array.replicate (fn.ntmps - args'.size) undef) := by
    rw [← hargs.1]
    refine hargs.append (AR.of? rfl fun j v v' h1 h2 => ?_)
    rw [h1] at h2; injection h2 with h2; subst h2
    have : v = undef := by
      rw [Array.getElem?_replicate] at h1
      split at h1
      · injection h1 with h1; exact h1.symm
      · cases h1
    subst this
    exact undef_rel ρ
  refine callsIn_wide.1 (callsIn_of_wp_marks (F := Fence.wide) (n := 0) hf hb trivial (h _ [] Γ M ρ w _ (hs.at none) hini fun e ρ' t1 A1 t2 w' M1 D l g0 g1 g2 g3 g4 => ?_))
  obtain ⟨he, hl⟩ := g0
  have fin : LeavesInM Fence.wide 0 P fn t2 (EndS P B ((w0.but Γ).marked M) ρ K) (l ++ []) .returning w' := by
    refine leave_all (w0 := w0.at none) g4 (Ren.le_refl _) g2 g3 hl fun ρ2 A2 w2 q0 q1 q2 q3 => ?_
    obtain ⟨v, hv, hK⟩ := q0
    obtain ⟨v', p1, p2⟩ := resA_sound q3 q2 hv
    exact ⟨v', p2, ρ2, v, v', A2, rfl, hK, Ren.le_trans g1 q1, q3.at w0.rd, p1⟩
  rcases he with rfl | rfl
  · exact fin
  · exact fin
/-- a region whose last operation defers a call -/
theorem CodeD.defer (G : Good P) (hrd : w0.rd = none) {id : Nat} {ops : Array Oper} {m : Nat} {o : Oper} {f : Operand} {args : Array Operand} {ts : Array TypeId} (hm : ops.size = m + 1) (ho : ops[m]? = some o) (hop : o.op = .defer ⟨.value f, args, ts⟩) (hgd : o.guard = none) (hdst : o.dst = none)
    (hok : okOp o = true) (hgl : glOp w0.gl o = true) {t : Array Value} {A : AW} {K : AE → Array Value → AW → List DC → Prop}
    (h : ∀ Γ M, opsW P B ((w0.but Γ).marked M) ops (fun t1 A1 => ∃ g fs cs fn, ev t1 f = .func (.func g) fs cs ∧ P.funcs[g]? = some fn ∧ fn.body.isSome = true ∧ K .normal t1 A1 [⟨g, fs ++ evs (ev t1) args ++ cs⟩]) (List.range m) t A) : CodeD P B w0 (.region id ops false) t A K := by
  intro Q ds Γ M ρ w t' hs ht hQ
  refine wpIn_region ?_
  rw [hm, List.range_succ]
  refine wpOps_app _ _ _ (opsW_sound (w0 := (w0.but Γ).marked M) (B := B) G ds _ ρ A w t t' hs ht (h Γ M) fun ρ' tf Af t2 w' g0 g1 g2 g3 => ?_)
  obtain ⟨g, fs, cs, fn, k1, k2, k3, k4⟩ := g0
  show wpOpsIn w0.F 0 P ops Q [m] ⟨t2, ds⟩ w'
  simp only [wpOpsIn]
  rw [ho]
  dsimp only
  have hwant : Region.wanted o (yielded ops t2) = true := by
    unfold Region.wanted
    rw [hgd]
  rw [if_pos hwant]
  refine ⟨fun _ _ => trivial, ?_⟩
  have hops := evs_ok g3.glo g2 hgl hok
  obtain ⟨dst, op, ty, pos, after, guard⟩ := o
  dsimp only at hop hgd hdst
  subst hop hgd hdst
  have hf : VR ρ' (ev tf f) (ev t2 f) := hops f (by simp [Op.operands, Call.operands])
  have hargs : AR ρ' (evs (ev tf) args) (evs (ev t2) args) := evs_rel (fun x hx => hops x (by simp only [Op.operands, Call.operands]; exact Array.mem_append.2 (.inr hx)))
  rw [k1] at hf
  generalize hz : ev t2 f = z at hf
  cases hf with
  | func _ hpl p1 p2 p3 p4 =>
    rename_i f' c'
    have hn := G.names g fn k2
    have hnb : fn.body.isNone = false := by
      cases hb2 : fn.body with
      | none => rw [hb2] at k3; cases k3
      | some b => rfl
    have hsem : (Oper.semAt w0.F.round (⟨t2, ds⟩ : Act).eval ⟨none, .defer ⟨.value f, args, ts⟩, ty, pos, after, none⟩).run P w' = .ok (.defer ⟨.fn (.func g) c', f' ++ evs (ev t2) args⟩) w' := by
      show (Oper.semAt w0.rd _ _).run P w' = _
      rw [hrd, Oper.semAt_none, eval_ev]
      simp only [execOp, resolve, hz, Deferred.ofValue, evs_eq]
      rfl
    rw [hsem, Oper.uponIn_defer]
    refine hQ .normal ρ' tf Af t2 w' [] [⟨g, fs ++ evs (ev tf) args ++ cs⟩] [⟨.fn (.func g) c', f' ++ evs (ev t2) args⟩] k4 g1 g2 g3 (.call ⟨.func g, c', f' ++ evs (ev t2) args ++ c', rfl, fun w => ?_, AR.append (AR.append ⟨p1, p2⟩ hargs) ⟨p3, p4⟩⟩ .nil)
    show (callFunc g (f' ++ evs (ev t2) args ++ c')).run P w = _
    simp only [callFunc, Go.program, Bind.bind, Sem.bind, Sem.run, k2, hn, hnb]
    rfl
end
end Go.Proofs.YtnneooidkbhbeaaGreatDoor.Sim
