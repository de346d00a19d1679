/- A verified evaluator, part P: a region whose operations the world does in any order. Of no program. -/
import Derived.Test.YtnneooidkbhbeaaGreatDoorSimM
set_option linter.unusedVariables false
set_option linter.unusedSimpArgs false
namespace Go.Proofs.YtnneooidkbhbeaaGreatDoor.Sim
open Go Go.RowKit

theorem freeQ_congr {P : Program} {t t2 : Operand → Value} (o : Oper) (h : ∀ x ∈ o.op.operands, t x = t2 x) : freeQ P t o = freeQ P t2 o := by
  unfold freeQ
  have h1 : o.op.operands.toList.all (fun x => free (t x)) = o.op.operands.toList.all (fun x => free (t2 x)) := by
    have : ∀ l : List Operand, (∀ x ∈ l, t x = t2 x) → l.all (fun x => free (t x)) = l.all (fun x => free (t2 x)) := by
      intro l
      induction l with
      | nil => intro _; rfl
      | cons a l ih =>
        intro hl
        simp only [List.all_cons]
        rw [hl a List.mem_cons_self, ih fun x hx => hl x (List.mem_cons_of_mem _ hx)]
    exact this _ fun x hx => h x (Array.mem_toList_iff.1 hx)
  rw [h1]
  cases hs : isSel o.op with
  | true => simp
  | false =>
    have hsel : ∀ cs b, o.op ≠ .select cs b := by
      intro cs b he
      rw [he] at hs; cases hs
    rw [execOp_congr o hsel h]
theorem evs_congr {t t2 : Operand → Value} {xs : Array Operand} (h : ∀ x ∈ xs, t x = t2 x) : evs t xs = evs t2 xs := by
  unfold evs
  congr 1
  exact List.map_congr_left fun x hx => h x (Array.mem_toList_iff.1 hx)
theorem partsA_congr {t t2 : Operand → Value} {ps : Array (Nat × Operand)} (h : ∀ p ∈ ps.toList, t p.2 = t2 p.2) : partsA t ps = partsA t2 ps :=
  List.map_congr_left fun p hp => by rw [h p hp]
theorem optmap_congr {t t2 : Operand → Value} {x : Option Operand} (h : ∀ y, x = some y → t y = t2 y) : x.map t = x.map t2 := by
  cases x with
  | none => rfl
  | some y => simp [h y rfl]
theorem opQ_congr {P : Program} {t t2 : Operand → Value} (o : Oper) (h : ∀ x ∈ o.op.operands, t x = t2 x) : opQ P t o = opQ P t2 o := by
  have fr := freeQ_congr (P := P) o h
  obtain ⟨dst, op, type, pos, after, guard⟩ := o
  unfold opQ
  replace h : ∀ x ∈ op.operands, t x = t2 x := h
  cases op with
  | build ty ps =>
    dsimp only
    rw [partsA_congr fun p hp => h p.2 (by simp only [Op.operands]; exact List.mem_toArray.2 (List.mem_map.2 ⟨p, hp, rfl⟩))]
  | makeFunc fn f c =>
    dsimp only
    rw [evs_congr (xs := f) fun x hx => h x (by simp only [Op.operands]; exact Array.mem_append.2 (.inl hx)), evs_congr (xs := c) fun x hx => h x (by simp only [Op.operands]; exact Array.mem_append.2 (.inr hx))]
  | slice ty x lo hi mx =>
    cases mx with
    | some m => dsimp only; exact fr
    | none =>
      dsimp only
      rw [h x (by simp [Op.operands]), fr]
  | call c =>
    obtain ⟨callee, args, argTypes⟩ := c
    cases callee with
    | builtin b =>
      cases b with
      | len =>
        dsimp only
        cases hq : args.toList with
        | nil => rfl
        | cons x l =>
          cases l with
          | nil =>
            dsimp only
            have : x ∈ args := Array.mem_toList_iff.1 (by rw [hq]; exact List.mem_cons_self)
            rw [h x (by simp [Op.operands, Call.operands, this]), fr]
          | cons y l => rfl
      | _ => dsimp only; exact fr
    | _ => dsimp only; exact fr
  | pick c a b => dsimp only; rw [h c (by simp [Op.operands]), h a (by simp [Op.operands]), h b (by simp [Op.operands])]
  | index ty x i => dsimp only; rw [h x (by simp [Op.operands]), h i (by simp [Op.operands]), fr]
  | indexAddr ty x i => dsimp only; rw [h x (by simp [Op.operands]), h i (by simp [Op.operands])]
  | binOp op ty x y yt => dsimp only; rw [h x (by simp [Op.operands]), h y (by simp [Op.operands]), fr]
  | move x => dsimp only; rw [h x (by simp [Op.operands])]
  | assign x => dsimp only; rw [h x (by simp [Op.operands])]
  | nilCheck x => dsimp only; rw [h x (by simp [Op.operands])]
  | fieldAddr s x f => dsimp only; rw [h x (by simp [Op.operands])]
  | field s x f => dsimp only; rw [h x (by simp [Op.operands])]
  | extract x i => dsimp only; rw [h x (by simp [Op.operands])]
  | makeInterface ty x => dsimp only; rw [h x (by simp [Op.operands])]
  | typeAssert x xT ty q =>
    cases q with
    | true => dsimp only; exact fr
    | false => dsimp only; rw [h x (by simp [Op.operands]), fr]
  | _ => dsimp only; exact fr
theorem quietA_congr {P : Program} {t t2 : Operand → Value} {A : AW} (o : Oper) (h : ∀ x ∈ o.op.operands, t x = t2 x) : quietA P t A o = quietA P t2 A o := by
  unfold quietA
  have hc : cls t o = cls t2 o := by
    unfold cls
    obtain ⟨dst, op, type, pos, after, guard⟩ := o
    cases op with
    | slice ty x lo hi mx =>
      cases mx with
      | none => dsimp only; rw [h x (by simp [Op.operands])]
      | some m => rfl
    | call c =>
      obtain ⟨callee, args, ts⟩ := c
      cases callee with
      | builtin b =>
        cases b with
        | len =>
          dsimp only
          cases hq : args.toList with
          | nil => rfl
          | cons x l =>
            cases l with
            | nil =>
              dsimp only
              have : x ∈ args := Array.mem_toList_iff.1 (by rw [hq]; exact List.mem_cons_self)
              rw [h x (by simp [Op.operands, Call.operands, this])]
            | cons y l => rfl
        | _ => rfl
      | _ => rfl
    | _ => rfl
  have hm : opM P t A o = opM P t2 A o := by
    unfold opM
    obtain ⟨dst, op, type, pos, after, guard⟩ := o
    cases op with
    | load ty x => dsimp only; rw [h x (by simp [Op.operands])]
    | slice ty x lo hi mx =>
      cases mx with
      | none =>
        dsimp only
        rw [h x (by simp [Op.operands]), optmap_congr (x := lo) fun y hy => h y (by simp [Op.operands, hy]), optmap_congr (x := hi) fun y hy => h y (by simp [Op.operands, hy])]
      | some m => rfl
    | call c =>
      obtain ⟨callee, args, ts⟩ := c
      cases callee with
      | builtin b =>
        cases b with
        | len =>
          dsimp only
          cases hq : args.toList with
          | nil => rfl
          | cons x l =>
            cases l with
            | nil =>
              dsimp only
              have : x ∈ args := Array.mem_toList_iff.1 (by rw [hq]; exact List.mem_cons_self)
              rw [h x (by simp [Op.operands, Call.operands, this])]
            | cons y l => rfl
        | _ => rfl
      | _ => rfl
    | _ => rfl
  have hg : ghostA P t o = ghostA P t2 o := by
    unfold ghostA
    obtain ⟨dst, op, type, pos, after, guard⟩ := o
    cases op with
    | box e x => dsimp only; rw [h x (by simp [Op.operands])]
    | makeSlice ty l c =>
      dsimp only
      rw [h l (by simp [Op.operands]), h c (by simp [Op.operands])]
    | buildSlice ty n ps =>
      dsimp only
      rw [partsA_congr fun p hp => h p.2 (by simp only [Op.operands]; exact List.mem_toArray.2 (List.mem_map.2 ⟨p, hp, rfl⟩))]
    | _ => rfl
  rw [hc, hm, hg, opQ_congr o h]
theorem quietA_le {P : Program} {t : Operand → Value} {A A' : AW} (h : A.le A') {o : Oper} {q : QA} (hq : quietA P t A o = some q) : quietA P t A' o = some q := by
  unfold quietA at hq ⊢
  cases hk : okOp o with
  | false => rw [hk] at hq; cases hq
  | true =>
    rw [hk, cond_true] at hq
    rw [cond_true]
    cases hc : cls t o with
    | mem =>
      rw [hc] at hq
      dsimp only at hq ⊢
      have hm : ∀ v, opM P t A o = some v → opM P t A' o = some v := by
        intro v hv
        unfold opM at hv ⊢
        obtain ⟨dst, op, type, pos, after, guard⟩ := o
        cases op with
        | load ty x =>
          dsimp only at hv ⊢
          cases hl : loadL P A ty (t x) with
          | none => rw [hl] at hv; cases hv
          | some r => rw [loadL_le h hl]; rw [hl] at hv; exact hv
        | slice ty x lo hi mx =>
          cases mx with
          | none => dsimp only at hv ⊢; exact sliceA_le h hv
          | some m => cases hv
        | call c =>
          obtain ⟨callee, args, ts⟩ := c
          cases callee with
          | builtin b =>
            cases b with
            | len =>
              dsimp only at hv ⊢
              split at hv
              · obtain ⟨b, ty, k, e, es, c, f, r, p1, p2, p3, p4, rfl⟩ := lenM_spec hv
                rw [p1]
                exact lenM_of p2 p3 (h _ _ p4)
              · cases hv
            | _ => cases hv
          | _ => cases hv
        | _ => cases hv
      cases hv : opM P t A o with
      | none => rw [hv] at hq; cases hq
      | some v => rw [hm v hv]; rw [hv] at hq; exact hq
    | pure => rw [hc] at hq; exact hq
    | ghost => rw [hc] at hq; exact hq

section
variable {P : Program} {B : Nat} {w0 : Base} {ρ : Ren} {A : AW} {w : World}
/-- a quiet operation gives in the world what it gave -/
theorem quiet_val (G : Good P) (h : SR P B w0 ρ A w) {t t' : Array Value} {o : Oper} (hop : okOp o = true → ∀ x ∈ o.op.operands, VR ρ (ev t x) (ev t' x)) {v : Value} (hq : quietA P (ev t) A o = some (.val v)) :
    ∃ v', VR ρ v v' ∧ (execOp (ev t') o).run P w = .ok (.value v') w := by
  unfold quietA at hq
  cases hk : okOp o with
  | false => rw [hk] at hq; cases hq
  | true =>
    rw [hk, cond_true] at hq
    have ok := hop hk
    cases hc : cls (ev t) o with
    | pure =>
      rw [hc] at hq
      dsimp only at hq
      cases hv : opQ P (ev t) o with
      | none => rw [hv] at hq; cases hq
      | some v1 =>
        rw [hv] at hq
        injection hq with hq; injection hq with hq; subst hq
        obtain ⟨v', g1, g2⟩ := opQ_sound (t' := ev t') G ok hv
        exact ⟨v', g1, g2 w⟩
    | ghost =>
      rw [hc] at hq
      dsimp only at hq
      split at hq
      · injection hq with hq; cases hq
      · cases hq
    | mem =>
      rw [hc] at hq
      dsimp only at hq
      cases hv : opM P (ev t) A o with
      | none => rw [hv] at hq; cases hq
      | some v1 =>
        rw [hv] at hq
        injection hq with hq; injection hq with hq; subst hq
        unfold opM at hv
        obtain ⟨dst, op, type, pos, after, guard⟩ := o
        replace ok : ∀ x, x ∈ op.operands → VR ρ (ev t x) (ev t' x) := ok
        cases op with
        | call c =>
          obtain ⟨callee, args, ts⟩ := c
          cases callee with
          | builtin b =>
            cases b with
            | len =>
              dsimp only at hv
              split at hv
              rotate_left
              · cases hv
              rename_i x hq2
              have hargs : args = #[x] := by rw [← Array.toArray_toList (xs := args), hq2]
              subst hargs
              obtain ⟨b, ty, k, e, es, c, f, r, p1, p2, p3, p4, rfl⟩ := lenM_spec hv
              have hx := ok x (by simp [Op.operands, Call.operands])
              rw [p1] at hx
              generalize hz : ev t' x = z at hx
              cases hx with
              | map hi =>
                rename_i i
                obtain ⟨es', q1, q2, _⟩ := map_at h hi p4
                have hsz := (EL.to q2).1
                simp only [Array.length_toList] at hsz
                refine ⟨.int .i64 (es'.size : Int), by rw [← hsz]; exact .int _ _, ?_⟩
                have hg2 : (getObj i.g).run P w = .ok (.map es' c) w := Go.MapKept.run_getObj_map q1
                have hm : (#[x] : Array Operand).map (ev t') = #[.map (some i.g)] := by simp [hz]
                have hl : (Builtin.len_ ts type ((#[x] : Array Operand).map (ev t'))).run P w = .ok (.int .i64 (es'.size : Int)) w := by
                  rw [hm]
                  simp [Builtin.len_, p2, run_underlying p3, goInt, hg2, Result.andThen]
                show ((do pure (.value (← Builtin.len_ ts type ((#[x] : Array Operand).map (ev t')))) : Sem Next)).run P w = _
                simp only [Bind.bind]
                rw [run_bind P _ _ w w _ hl]; rfl
            | _ => cases hv
          | _ => cases hv
        | load ty a =>
          dsimp only at hv
          cases hl : loadL P A ty (ev t a) with
          | none => rw [hl] at hv; cases hv
          | some r =>
            obtain ⟨⟨b, off, l⟩, v2⟩ := r
            rw [hl] at hv
            injection hv with hv; subst hv
            obtain ⟨i2, l', v', q1, q2, q3, q4, q5⟩ := loadL_sound h (ok a (by simp [Op.operands])) hl
            refine ⟨v', q4, ?_⟩
            have hrun := q5 w q3
            simp only [execOp, Bind.bind]
            rw [run_bind P _ _ w w v' hrun]; rfl
        | slice ty x lo hi mx =>
          cases mx with
          | none =>
            dsimp only at hv
            obtain ⟨v', g1, g3⟩ := sliceA_sound h (ok x (by simp [Op.operands])) (opt_rel lo (fun y hy => ok y (by simp [Op.operands, hy]))) (opt_rel hi (fun y hy => ok y (by simp [Op.operands, hy]))) hv
            refine ⟨v', g3, ?_⟩
            show ((do pure (.value (← Instr.sliceAt ty (ev t' x) (lo.map (ev t')) (hi.map (ev t')) none)) : Sem Next)).run P w = _
            simp only [Bind.bind]
            rw [run_bind P _ _ w w v' (g1 w)]; rfl
          | some m => cases hv
        | _ => cases hv
/-- .. and a block that it makes is the one that it made -/
theorem quiet_ghost (G : Good P) (h : SR P B w0 ρ A w) {t t' : Array Value} {o : Oper} (hop : okOp o = true → ∀ x ∈ o.op.operands, VR ρ (ev t x) (ev t' x)) {c : Array Value} {e : TypeId} {n : Option (Nat × Nat)} (hq : quietA P (ev t) A o = some (.ghost c e n))
    {b : Nat} (hb : A.heap.get b = some ⟨.cells c e (0, 0), false, false⟩) (hn : ρ b = none) (hoff : ∀ x, ¬ w0.Γ b x) :
    ∃ i v' w', SR P B w0 (ρ.more b i) A w' ∧ VR (ρ.more b i) (ghostV b n) v' ∧ (execOp (ev t') o).run P w = .ok (.value v') w' := by
  have land : ∀ c', AR ρ c c' → SR P B w0 (ρ.more b ⟨w.heap.size, false, false, 0, 0⟩) A { w with heap := w.heap.push (.cells c' e) } := by
    intro c' hc
    refine h.land hn hoff hb rfl rfl rfl (by simp) (Nat.le_trans h.low h.below.size) (by simp) (fun k hk hlt => by simp [Array.getElem?_push, Nat.ne_of_lt hlt]) (fun b y j hy hj he => ?_) h.mkNew (.exact rfl rfl (hc.mono (Ren.le_more hn)) rfl)
    have := h.old hy hj
    simp only at he
    omega
  have gv : ∀ n, VR (ρ.more b ⟨w.heap.size, false, false, 0, 0⟩) (ghostV b n) (match n with | none => .pointer (some ⟨w.heap.size, 0, none⟩) | some n => .slice (some ⟨w.heap.size, 0, none⟩) n.1 n.2) := by
    intro n
    have hi := Ren.more_self ρ b ⟨w.heap.size, false, false, 0, 0⟩
    cases n with
    | none => exact .ptr hi
    | some n => exact .slice hi (.inl ⟨rfl, rfl⟩)
  unfold quietA at hq
  cases hk : okOp o with
  | false => rw [hk] at hq; cases hq
  | true =>
    rw [hk, cond_true] at hq
    have ok := hop hk
    have nov : ∀ (x : Option Value), (match x with | some v => some (QA.val v) | none => none) = some (QA.ghost c e n) → False := by
      intro x hx; cases x <;> simp at hx
    cases hc : cls (ev t) o with
    | pure => rw [hc] at hq; exact (nov _ hq).elim
    | mem => rw [hc] at hq; exact (nov _ hq).elim
    | ghost =>
      rw [hc] at hq
      dsimp only at hq
      cases hg : ghostA P (ev t) o with
      | none => rw [hg] at hq; cases hq
      | some r =>
        obtain ⟨c1, e1, n1⟩ := r
        rw [hg] at hq
        injection hq with hq; injection hq with q1 q2 q3; subst q1 q2 q3
        unfold ghostA at hg
        obtain ⟨dst, op, type, pos, after, guard⟩ := o
        replace ok : ∀ x, x ∈ op.operands → VR ρ (ev t x) (ev t' x) := ok
        cases op with
        | alloc ty =>
          dsimp only at hg
          cases hi : P.info? ty with
          | none => rw [hi] at hg; cases hg
          | some i =>
            rw [hi] at hg
            dsimp only at hg
            cases hz : i.zero with
            | none => rw [hz] at hg; cases hg
            | some z =>
              rw [hz] at hg
              injection hg with hg; injection hg with g1 g2; injection g2 with g2 g3; subst g1 g2 g3
              refine ⟨_, _, _, land z.cells ((G.zeros _ i z hi hz) ρ).cells, gv none, ?_⟩
              simp [execOp, Instr.alloc, zeroValue, typeInfo, hi, hz, newVar, newRow, newObj, Sem.run]
        | box ty x =>
          dsimp only at hg
          injection hg with hg; injection hg with g1 g2; injection g2 with g2 g3; subst g1 g2 g3
          refine ⟨_, _, _, land (ev t' x).cells (ok x (by simp [Op.operands])).cells, gv none, ?_⟩
          simp [execOp, Instr.box, newVar, newRow, newObj, Sem.run]
        | makeSlice ty l cc =>
          dsimp only at hg
          have hl := ok l (by simp [Op.operands])
          have hc2 := ok cc (by simp [Op.operands])
          generalize ev t l = xl at hl hg
          generalize ev t cc = xc at hc2 hg
          split at hg
          rotate_left
          · cases hg
          rename_i e2 kl zl kc zc htu
          generalize hxl : ev t' l = xl' at hl
          generalize hxc : ev t' cc = xc' at hc2
          cases hl
          cases hc2
          cases hie : P.info? e2 with
          | none => rw [hie] at hg; cases hg
          | some ie =>
            rw [hie] at hg
            dsimp only at hg
            cases hzz : ie.zero with
            | none => rw [hzz] at hg; cases hg
            | some z =>
              rw [hzz] at hg
              dsimp only at hg
              cases hqq : decide (0 ≤ zl) && decide (zl ≤ zc) && Nat.ble (zc.toNat * ie.size) 16777216 && Nat.ble (ie.bytes * zc.toNat) 281474976710656 && Nat.ble zc.toNat 4611686018427387904 with
              | false => rw [hqq] at hg; cases hg
              | true =>
                rw [hqq, cond_true] at hg
                rw [Bool.and_eq_true, Bool.and_eq_true, Bool.and_eq_true, Bool.and_eq_true] at hqq
                obtain ⟨⟨⟨⟨q1, q2⟩, q3⟩, q4⟩, q5⟩ := hqq
                injection hg with hg; injection hg with g1 g2; injection g2 with g2 g3; subst g1 g2 g3
                have q1 := of_decide_eq_true q1
                have q2 := of_decide_eq_true q2
                have q3 : zc.toNat * ie.size ≤ 16777216 := Nat.le_of_ble_eq_true q3
                have q4 : ie.bytes * zc.toNat ≤ 281474976710656 := Nat.le_of_ble_eq_true q4
                have q5 : zc.toNat ≤ 4611686018427387904 := Nat.le_of_ble_eq_true q5
                have hzc : (zc.toNat : Int) = zc := by omega
                have q4' : (ie.bytes : Int) * zc ≤ 281474976710656 := by
                  rw [← hzc, ← Int.natCast_mul]
                  omega
                have hrun := run_makeSlice (P := P) (w := w) ty e2 ie z htu hie hzz kl kc zl zc q1 q2 q3 q4' (by omega)
                have hcells : AR ρ (madeCells z.cells (zc.toNat * ie.size)) (madeCells z.cells (zc.toNat * ie.size)) := by
                  have hzr : AR ρ z.cells z.cells := ((G.zeros e2 ie z hie hzz) _).cells
                  unfold madeCells
                  refine AR.map _ fun x => ?_
                  by_cases hx : x % z.cells.size < z.cells.size
                  · rw [getElem!_pos z.cells _ hx]
                    exact hzr.2 _ hx hx
                  · rw [getElem!_neg z.cells _ hx]
                    exact free_rel _ rfl
                refine ⟨_, _, _, land _ hcells, gv (some (zl.toNat, zc.toNat)), ?_⟩
                show ((do pure (.value (← Instr.makeSlice ty (ev t' l) (ev t' cc) )) : Sem Next)).run P w = _
                rw [hxl, hxc]
                simp only [Bind.bind]
                rw [run_bind P _ _ w _ _ hrun]; rfl
        | buildSlice ty len ps =>
          dsimp only at hg
          split at hg
          rotate_left
          · cases hg
          rename_i e2 htu
          cases hie : P.info? e2 with
          | none => rw [hie] at hg; cases hg
          | some ie =>
            rw [hie] at hg
            dsimp only at hg
            cases hzz : ie.zero with
            | none => rw [hzz] at hg; cases hg
            | some z =>
              rw [hzz] at hg
              dsimp only at hg
              cases hqq : Nat.ble (len * ie.size) 16777216 with
              | false => rw [hqq] at hg; cases hg
              | true =>
                rw [hqq, cond_true] at hg
                have h1 : len * ie.size ≤ 16777216 := Nat.le_of_ble_eq_true hqq
                cases hf : Instr.fill (fun i => some (i * ie.size, ie.size)) ((Array.range (len * ie.size)).map (z.cells[· % z.cells.size]!)) (partsA (ev t) ps) with
                | none => rw [hf] at hg; cases hg
                | some cells =>
                  rw [hf] at hg
                  injection hg with hg; injection hg with g1 g2; injection g2 with g2 g3; subst g1 g2 g3
                  have hzr := ((G.zeros e2 ie z hie hzz) ρ).cells
                  have hcr : AR ρ ((Array.range (len * ie.size)).map (z.cells[· % z.cells.size]!)) ((Array.range (len * ie.size)).map (z.cells[· % z.cells.size]!)) := by
                    refine AR.map _ fun k => ?_
                    by_cases hk : k % z.cells.size < z.cells.size
                    · rw [getElem!_pos z.cells _ hk]; exact hzr.2 _ hk hk
                    · rw [getElem!_neg z.cells _ hk]; exact .bool _
                  have hpr : PR ρ (partsA (ev t) ps) (partsA (ev t') ps) := parts_rel _ fun p hp => ok p.2 (by simp only [Op.operands]; exact List.mem_toArray.2 (List.mem_map.2 ⟨p, hp, rfl⟩))
                  obtain ⟨cells', g1, g2⟩ := fill_rel _ _ (partsA (ev t') ps) _ _ cells hpr hcr hf
                  refine ⟨_, _, _, land cells' g2, gv (some (len, len)), ?_⟩
                  have hs1 : ¬ len * ie.size > 2 ^ 24 := by have : (2 : Nat) ^ 24 = 16777216 := by decide
                                                            omega
                  have g3 : Instr.fill (fun i => some (i * ie.size, ie.size)) ((Array.range (len * ie.size)).map (z.cells[· % z.cells.size]!)) (List.map (fun x => (x.fst, ev t' x.snd)) ps.toList) = some cells' := g1
                  by_cases hs2 : len * ie.size = 0
                  · rw [hs2] at g3
                    have hE : ∀ f : Nat → Value, (Array.range 0).map f = #[] := fun f => Array.eq_empty_of_size_eq_zero (by simp)
                    rw [hE] at g3
                    simp [execOp, Instr.buildSlice, run_underlying htu, sizeOf, typeInfo, hie, hs2, hE, newRow, newObj]
                    rw [g3]
                    rfl
                  · simp [execOp, Instr.buildSlice, run_underlying htu, sizeOf, typeInfo, zeroValue, hie, hzz, hs1, hs2, newRow, newObj]
                    rw [g3]
                    rfl
        | _ => cases hg
end
end Go.Proofs.YtnneooidkbhbeaaGreatDoor.Sim
