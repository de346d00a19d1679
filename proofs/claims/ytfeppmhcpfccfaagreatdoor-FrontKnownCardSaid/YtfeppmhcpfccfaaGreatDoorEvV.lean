/- A fast evaluator, part V: the decoded operations in a form that the kernel keeps (each is decoded once, not at each step); it is the same evaluator. Of no program. -/
import Derived.Test.YtfeppmhcpfccfaaGreatDoorEvC
set_option linter.unusedVariables false
set_option linter.unusedSimpArgs false
namespace Go.Proofs.YtfeppmhcpfccfaaGreatDoor.Fast
open Go Go.RowKit Go.Proofs.YtfeppmhcpfccfaaGreatDoor.Sim
noncomputable section
theorem OpD.eta (x : OpD) : x = .mk x.get := by cases x; rfl
theorem decD_eq (gl : Nat → Bool) (P : Program) (n : Nat) (o : Oper) : decD gl P n o = .mk (decOp gl P n o) := OpD.eta _
def putD (d : Option Tmp) (c : Op1) : Stp := match d with
  | none => .mk fun rec L F k => c rec L F fun _ F => k L F
  | some d => Wl.rec (motive := fun _ => Stp) (fun _ s => .mk fun rec L F k => c rec L F fun v F => s v L fun L => k L F) (w512 SV d)
theorem putD_eq (d : Option Tmp) (c : Op1) : putD d c = .mk (putS d c) := by
  unfold putD putS
  cases d with
  | none => rfl
  | some d =>
    dsimp only
    generalize w512 SV d = w
    cases w
    rfl
def guardD (n : Nat) (ops : Array Oper) (o : Oper) (x : OpD) : OpD := match o.guard with
  | none => x
  | some (g, want) => match ops[g]? with
    | some q => match q.dst with
      | some t => match accT n t with
        | some a => OpD.rec (motive := fun _ => OpD) (fun c => .mk (rGuard a want c)) x
        | none => .mk rBad
      | none => .mk rBad
    | none => .mk rBad
theorem guardD_eq (n : Nat) (ops : Array Oper) (o : Oper) (c : Op1) : guardD n ops o (.mk c) = .mk (guardOf n ops o c) := by
  unfold guardD guardOf
  cases o.guard with
  | none => rfl
  | some g =>
    obtain ⟨g, want⟩ := g
    dsimp only
    cases ops[g]? with
    | none => rfl
    | some q =>
      dsimp only
      cases q.dst with
      | none => rfl
      | some t =>
        dsimp only
        cases accT n t <;> rfl
def stepD (gl : Nat → Bool) (P : Program) (n : Nat) (ops : Array Oper) (i : Nat) : Stp := match ops[i]? with
  | none => .mk rsBad
  | some o => bif dstB n o.dst && Nat.ble n 512 && okOp o && glOp gl o && ghOk o then OpD.rec (motive := fun _ => Stp) (fun c => putD o.dst c) (guardD n ops o (decD gl P n o)) else .mk rsBad
theorem stepD_eq (gl : Nat → Bool) (P : Program) (n : Nat) (ops : Array Oper) (i : Nat) : stepD gl P n ops i = .mk (stepOf gl P n ops i) := by
  unfold stepD stepOf
  cases ops[i]? with
  | none => rfl
  | some o =>
    dsimp only
    rw [decD_eq, guardD_eq]
    generalize (dstB n o.dst && Nat.ble n 512 && okOp o && glOp gl o && ghOk o) = q
    cases q with
    | true => exact putD_eq _ _
    | false => rfl
/-- in the text's order -/
def stepCD (gl : Nat → Bool) (P : Program) (n : Nat) (ops : Array Oper) (i : Nat) : Stp := match ops[i]? with
  | none => .mk rsBad
  | some o => bif commB o then .mk (stepC gl P n ops i) else stepD gl P n ops i
theorem stepCD_eq (gl : Nat → Bool) (P : Program) (n : Nat) (ops : Array Oper) (i : Nat) : stepCD gl P n ops i = .mk (stepC gl P n ops i) := by
  unfold stepCD
  cases ho : ops[i]? with
  | none => unfold stepC; rw [ho]
  | some o =>
    dsimp only
    cases hc : commB o with
    | true => rfl
    | false =>
      rw [cond_false, stepD_eq]
      unfold stepC
      rw [ho]
      dsimp only
      rw [hc, cond_false]
/-- what was read is read again -/
def againD (gl : Nat → Bool) (P : Program) (n : Nat) (ops : Array Oper) : List Nat → Stp
  | [] => .mk fun _ L F k => k L F
  | j :: l => match ops[j]? with
    | some o => match o.dst with
      | some t => match accT n t with
        | some a => bif okOp o && glOp gl o && memK o && !loudB o then
            OpD.rec (motive := fun _ => Stp) (fun c => Stp.rec (motive := fun _ => Stp) (fun tl => OpD.rec (motive := fun _ => Stp) (fun d => .mk fun rec L F k => d rec L F fun _ F => pass (tl rec L F k))
              (guardD n ops o (.mk fun rec L F k => c rec L F fun v F => ifK (eqS v (a L)) (k v F) bad))) (againD gl P n ops l)) (decD gl P n o)
          else .mk rsBad
        | _ => .mk rsBad
      | none => .mk rsBad
    | none => .mk rsBad
theorem againD_eq (gl : Nat → Bool) (P : Program) (n : Nat) (ops : Array Oper) : ∀ l, againD gl P n ops l = .mk (againOf gl P n ops l)
  | [] => rfl
  | j :: l => by
    unfold againD againOf
    rw [againD_eq gl P n ops l]
    cases ops[j]? with
    | none => rfl
    | some o =>
      dsimp only
      cases o.dst with
      | none => rfl
      | some t =>
        dsimp only
        cases accT n t with
        | none => rfl
        | some a =>
          dsimp only
          rw [decD_eq, guardD_eq]
          cases (okOp o && glOp gl o && memK o && !loudB o) <;> rfl
def pairD (gl : Nat → Bool) (P : Program) (n : Nat) (ops : Array Oper) (i j : Nat) (ri rj : List Nat) : Stp := match ops[i]?, ops[j]? with
  | some o1, some o2 => match pairChk gl P n o1 o2 with
    | some ck => bif o1.guard.isNone && o2.guard.isNone && o1.dst.isNone && o2.dst.isNone then
          Stp.rec (motive := fun _ => Stp) (fun fi => Stp.rec (motive := fun _ => Stp) (fun fj => Stp.rec (motive := fun _ => Stp) (fun gi => Stp.rec (motive := fun _ => Stp) (fun gj => .mk fun rec L F k => ck L
          (bothK (fj rec L F fun L F => pass (gj rec L F fun L F => pass (fi rec L F fun L F => pass (gi rec L F fun _ _ => true))))
            (fi rec L F fun L F => pass (gi rec L F fun L F => pass (fj rec L F fun L F => pass (gj rec L F k))))))
          (againD gl P n ops rj)) (againD gl P n ops ri)) (stepD gl P n ops j)) (stepD gl P n ops i)
        else .mk rsBad
    | none => .mk rsBad
  | _, _ => .mk rsBad
theorem pairD_eq (gl : Nat → Bool) (P : Program) (n : Nat) (ops : Array Oper) (i j : Nat) (ri rj : List Nat) : pairD gl P n ops i j ri rj = .mk (pairOf gl P n ops i j ri rj) := by
  unfold pairD pairOf
  rw [stepD_eq, stepD_eq, againD_eq, againD_eq]
  cases ops[i]? with
  | none => rfl
  | some o1 =>
    cases ops[j]? with
    | none => rfl
    | some o2 =>
      dsimp only
      generalize (o1.guard.isNone && o2.guard.isNone && o1.dst.isNone && o2.dst.isNone) = q
      cases pairChk gl P n o1 o2 with
      | none => rfl
      | some ck => cases q <;> rfl
def thenD (a b : Stp) : Stp := Stp.rec (motive := fun _ => Stp) (fun a => Stp.rec (motive := fun _ => Stp) (fun b => .mk (thenS a b)) b) a
def planF (gl : Nat → Bool) (P : Program) (n : Nat) (ops : Array Oper) : List PS → List Stp
  | [] => []
  | .quiet i :: s => stepD gl P n ops i :: planF gl P n ops s
  | .loud i re :: s => (match re with | [] => stepD gl P n ops i | re => thenD (stepD gl P n ops i) (againD gl P n ops re)) :: planF gl P n ops s
  | .pair i j ri rj :: s => pairD gl P n ops i j ri rj :: planF gl P n ops s
theorem planF_eq (gl : Nat → Bool) (P : Program) (n : Nat) (ops : Array Oper) : ∀ s, planF gl P n ops s = planStp gl P n ops s
  | [] => rfl
  | .quiet i :: s => by
    unfold planF planStp
    rw [stepD_eq, planF_eq gl P n ops s]
  | .loud i re :: s => by
    unfold planF planStp
    rw [planF_eq gl P n ops s]
    cases re with
    | nil => dsimp only; rw [stepD_eq]
    | cons a l => dsimp only; rw [stepD_eq, againD_eq]; rfl
  | .pair i j ri rj :: s => by
    unfold planF planStp
    rw [pairD_eq, planF_eq gl P n ops s]
def regF (gl : Nat → Bool) (P : Program) (n : Nat) (ops : Array Oper) (draw : Bool) : List Stp :=
  bif draw then
    (fun anc => (fun p => bif ancOk ops (fun k => anc.getD k 0) && okPlan ops (fun k => anc.getD k 0) p 0 && p.all (kindOk ops) then planF gl P n ops p else [.mk rsBad])
      (planOf (oisOf ops ops.toList anc 0) (ops.size + 1) 0)) (ancL ops.toList [])
  else (List.range ops.size).map fun i => stepCD gl P n ops i
theorem regF_eq (gl : Nat → Bool) (P : Program) (n : Nat) (ops : Array Oper) (draw : Bool) : regF gl P n ops draw = regOf gl P n ops draw := by
  unfold regF regOf
  simp only [planF_eq, stepCD_eq]
def compF (gl : Nat → Bool) (P : Program) (n : Nat) : Code → CD
  | .skip => .skip
  | .label _ => .skip
  | .region _ ops draw => .region (regF gl P n ops draw)
  | .seq a b => .seq (compF gl P n a) (compF gl P n b)
  | .cond x a b => match accOf gl n x with
    | some y => .cond y (compF gl P n a) (compF gl P n b)
    | none => .bad
  | .block id b => .block id (compF gl P n b)
  | .loop b => .loop (compF gl P n b)
  | .scope b => compF gl P n b
  | .exit id => .exit id
  | .ret => .ret
  | .rangeFunc g ps a b => match accOf gl n g with
    | some y => .range y (hasB P) n ps.toList a b
    | none => .bad
  | _ => .bad
theorem compF_eq (gl : Nat → Bool) (P : Program) (n : Nat) (c : Code) : compF gl P n c = compC gl P n c := by
  induction c with
  | region id ops draw => unfold compF compC; rw [regF_eq]
  | seq a b iha ihb => unfold compF compC; rw [iha, ihb]
  | cond x a b iha ihb => unfold compF compC; rw [iha, ihb]; cases accOf gl n x <;> rfl
  | block id b ih => unfold compF compC; rw [ih]
  | loop b ih => unfold compF compC; rw [ih]
  | scope b ih => unfold compF compC; exact ih
  | rangeFunc g ps a b => unfold compF compC; cases accOf gl n g <;> rfl
  | _ => rfl
def dfrF (gl : Nat → Bool) (P : Program) (n : Nat) (ops : Array Oper) : CE := match lastD gl ops with
  | some (f, xs) => match accOf gl n f, ahOf gl n xs with
    | some a, some s => .dfr ((List.range (ops.size - 1)).map fun i => stepCD gl P n ops i) a s
    | _, _ => .bad
  | none => .bad
theorem dfrF_eq (gl : Nat → Bool) (P : Program) (n : Nat) (ops : Array Oper) : dfrF gl P n ops = dfrOf gl P n ops := by
  unfold dfrF dfrOf
  simp only [stepCD_eq]
  cases lastD gl ops with
  | none => rfl
  | some x =>
    obtain ⟨f, xs⟩ := x
    dsimp only
    cases accOf gl n f <;> cases ahOf gl n xs <;> rfl
def compEF (gl : Nat → Bool) (P : Program) (n : Nat) : Code → CE
  | .seq a b => .seq (compEF gl P n a) (compEF gl P n b)
  | .region id ops draw => bif (lastD gl ops).isSome then (bif draw then .bad else dfrF gl P n ops) else .code (compF gl P n (.region id ops draw))
  | c => .code (compF gl P n c)
theorem compEF_eq (gl : Nat → Bool) (P : Program) (n : Nat) (c : Code) : compEF gl P n c = compE gl P n c := by
  induction c with
  | seq a b iha ihb => unfold compEF compE; rw [iha, ihb]
  | region id ops draw => unfold compEF compE; rw [dfrF_eq, compF_eq]
  | _ => unfold compEF compE; rw [compF_eq]
def decFnF (gl : Nat → Bool) (P : Program) (f : FuncId) : FnD := match P.funcs[f]? with
  | some fn => match fn.body with
    | some c => match resOf P fn.ntmps fn.results.toList with
      | some r => bif Nat.ble fn.ntmps 512 then (bif defersB gl c then .dfr (compEF gl P fn.ntmps c) r else .mk (compF gl P fn.ntmps c) r) else .bad
      | none => .bad
    | none => .bad
  | none => .bad
theorem decFnF_eq (gl : Nat → Bool) (P : Program) (f : FuncId) : decFnF gl P f = decFn gl P f := by
  unfold decFnF decFn
  simp only [compF_eq, compEF_eq]
  cases P.funcs[f]? with
  | none => rfl
  | some fn =>
    dsimp only
    cases fn.body with
    | none => rfl
    | some c =>
      dsimp only
      cases resOf P fn.ntmps fn.results.toList <;> rfl
/-- a call's body, or a round, or a deferred call's body -/
def bodyF (gl : Nat → Bool) (P : Program) (fuel : Nat) (ih : Rc) : Rc := fun f L F k => Bool.rec (motive := fun _ => R)
  (FnD.rec (motive := fun _ => R) (fun code res => pass (runC fuel ih code L F (endK res k))) (fun code res => pass (runE P fuel ih code L F [] (endE ih res k))) Fast.bad (decFnF gl P f))
  (Bool.rec (motive := fun _ => R) (num (Nat.sub f yB) fun b => pass (roundC (compF gl P) (runC fuel ih) b L F k))
    (num (Nat.sub f dB) fun g => FnD.rec (motive := fun _ => R) (fun code res => pass (runC fuel ih code L F (endK res k))) (fun _ _ => Fast.bad) Fast.bad (decFnF gl P g)) (Nat.ble dB f)) (Nat.ble yB f)
def callF (gl : Nat → Bool) (P : Program) (fuel : Nat) (n : Nat) : Rc := Nat.rec (motive := fun _ => Rc) (fun _ _ _ _ => Fast.bad) (fun _ ih => bodyF gl P fuel ih) n
theorem callF_eq (gl : Nat → Bool) (P : Program) (fuel : Nat) (n : Nat) : callF gl P fuel n = callK gl P fuel n := by
  have hc : compF gl P = compC gl P := by
    funext m c
    exact compF_eq gl P m c
  unfold callF callK bodyF bodyK
  simp only [decFnF_eq, hc]
end
end Go.Proofs.YtfeppmhcpfccfaaGreatDoor.Fast
