/- A verified evaluator, part K: each operation does what the evaluator does. Of no program. -/
import Derived.Test.YtfeppmhcpfccfaaGreatDoorSimJ
set_option linter.unusedVariables false
set_option linter.unusedSimpArgs false
namespace Go.Proofs.YtfeppmhcpfccfaaGreatDoor.Sim
open Go Go.RowKit
theorem run_assert {P : Program} {ty xT : TypeId} {v : Value} {u : TypeDesc} (hu : P.underlying ty = some u) (hn : ∀ ms, u ≠ .interface ms) (W : World) : (Instr.typeAssert (.iface ty v) xT ty false).run P W = .ok v W := by
  cases u with
  | interface ms => exact absurd rfl (hn ms)
  | _ => simp [Instr.typeAssert, run_underlying hu, Result.andThen]
section
variable {P : Program} {B : Nat} {w0 : Base} {ρ : Ren} {A : AW} {w : World} {t t' : Operand → Value}
set_option maxHeartbeats 8000000 in
theorem opQ_sound (G : Good P) {o : Oper} (ok : ∀ x ∈ o.op.operands, VR ρ (t x) (t' x)) {v : Value} (ha : opQ P t o = some v) : Gives P ρ (execOp t' o) v := by
  have fr := fun (ha : freeQ P t o = some v) => freeQ_sound ok ha
  obtain ⟨dst, op, type, pos, after, guard⟩ := o
  unfold opQ at ha
  replace ok : ∀ x, x ∈ op.operands → VR ρ (t x) (t' x) := ok
  cases op with
  | move x => dsimp only at ha; injection ha with ha; subst ha; exact gives_pure (ok x (by simp [Op.operands]))
  | assign x => dsimp only at ha; injection ha with ha; subst ha; exact gives_pure (ok x (by simp [Op.operands]))
  | pick c a b =>
    dsimp only at ha
    have hc := ok c (by simp [Op.operands])
    have hA := ok a (by simp [Op.operands])
    have hB := ok b (by simp [Op.operands])
    split at ha
    rotate_left
    · cases ha
    rename_i q hq
    rw [hq] at hc
    injection ha with ha; subst ha
    refine ⟨if q then t' a else t' b, ?_, fun W => ?_⟩
    · cases q
      · exact hB
      · exact hA
    · show (execOp t' ⟨dst, .pick c a b, type, pos, after, guard⟩).run P W = _
      have : t' c = .bool q := by
        generalize t' c = z at hc
        cases hc; rfl
      simp only [execOp, this, Go.asBool]
      rfl
  | build ty ps =>
    dsimp only at ha
    cases hb : P.built ty (partsA t ps) with
    | none => rw [hb] at ha; cases ha
    | some c =>
      rw [hb] at ha
      dsimp only at ha
      injection ha with ha; subst ha
      have hpr : PR ρ (partsA t ps) (partsA t' ps) := parts_rel _ fun p hp => ok p.2 (by simp only [Op.operands]; exact List.mem_toArray.2 (List.mem_map.2 ⟨p, hp, rfl⟩))
      obtain ⟨c', g1, g2⟩ := built_rel G.zeros hpr hb
      refine gives_run (fun W => run_build W ty (ps.map fun (i, x) => (i, t' x)) c' ?_) (VR.mkAgg g2)
      rw [Array.toList_map]; exact g1
  | nilCheck x =>
    dsimp only at ha
    have hx := ok x (by simp [Op.operands])
    split at ha
    · rename_i a hq
      injection ha with ha; subst ha
      rw [hq] at hx
      refine ⟨t' x, hx, fun W => ?_⟩
      show (execOp t' ⟨dst, .nilCheck x, type, pos, after, guard⟩).run P W = _
      simp only [execOp]
      generalize t' x = z at hx
      cases hx; rfl
    · rename_i f a b hq
      injection ha with ha; subst ha
      rw [hq] at hx
      refine ⟨t' x, hx, fun W => ?_⟩
      show (execOp t' ⟨dst, .nilCheck x, type, pos, after, guard⟩).run P W = _
      simp only [execOp]
      generalize t' x = z at hx
      cases hx; rfl
    · cases ha
  | fieldAddr s x f => exact gives_sem (Sim.fieldAt (B := 0) (w0 := default) (ok x (by simp [Op.operands])) s f) ha
  | field s x f => exact gives_sem (Sim.field (B := 0) (w0 := default) (ok x (by simp [Op.operands])) s f) ha
  | indexAddr ty x i => exact gives_sem (Sim.indexAt (B := 0) (w0 := default) (ok x (by simp [Op.operands])) (ok i (by simp [Op.operands])) ty) ha
  | index ty x i =>
    dsimp only at ha
    split at ha
    · exact gives_sem (Sim.index (B := 0) (w0 := default) (ok x (by simp [Op.operands])) (ok i (by simp [Op.operands])) ty) ha
    · exact fr ha
  | extract x i => exact gives_sem (Sim.extract (B := 0) (w0 := default) (ok x (by simp [Op.operands])) i) ha
  | makeInterface ty x => exact gives_sem (Sim.makeInterface (B := 0) (w0 := default) (ok x (by simp [Op.operands])) ty) ha
  | typeAssert x xT ty q =>
    cases q with
    | true => dsimp only at ha; exact fr ha
    | false =>
      dsimp only at ha
      split at ha
      rotate_left
      · exact fr ha
      rename_i t1 v1 hq
      have hx := ok x (by simp [Op.operands])
      unfold assertA at ha
      cases hb : Nat.beq t1 ty with
      | false => rw [hb, cond_false] at ha; exact fr ha
      | true =>
        rw [hb, cond_true] at ha
        split at ha
        · exact fr ha
        · rename_i u hne hu
          injection ha with ha; subst ha
          rw [hq] at hx
          obtain rfl : t1 = ty := Tr.beq_iff.1 hb
          generalize hz : t' x = z at hx
          cases hx with
          | iface _ hv =>
            refine gives_run (s' := Instr.typeAssert (t' x) xT t1 false) (fun W => ?_) hv
            rw [hz]
            exact run_assert hu (fun ms e => hne ms e) W
        · exact fr ha
  | makeFunc fn f c =>
    dsimp only at ha
    cases hpf : plainFn fn with
    | false => rw [hpf] at ha; cases ha
    | true =>
    rw [hpf, cond_true] at ha
    injection ha with ha; subst ha
    have hf : AR ρ (evs t f) (evs t' f) := evs_rel (fun x hx => ok x (by simp only [Op.operands]; exact Array.mem_append.2 (.inl hx)))
    have hc : AR ρ (evs t c) (evs t' c) := evs_rel (fun x hx => ok x (by simp only [Op.operands]; exact Array.mem_append.2 (.inr hx)))
    refine gives_run (s' := Instr.makeFunc fn (f.map t') (c.map t')) (v' := .func fn (f.map t') (c.map t')) (fun _ => rfl) ?_
    rw [← evs_eq, ← evs_eq]
    exact VR.mkFunc fn hpf hf hc
  | slice ty x lo hi mx =>
    cases mx with
    | some m => dsimp only at ha; exact fr ha
    | none =>
      dsimp only at ha
      split at ha
      · cases ha
      · exact fr ha
  | binOp op ty x y yt =>
    dsimp only at ha
    cases hf : free (t x) && free (t y) with
    | true => rw [hf, cond_true] at ha; exact fr ha
    | false =>
      rw [hf, cond_false] at ha
      have hx := ok x (by simp [Op.operands])
      have hy := ok y (by simp [Op.operands])
      cases op with
      | eql => exact eqA_sound (neg := false) hx hy ha
      | neq => exact eqA_sound (neg := true) hx hy ha
      | _ => cases ha
  | call c =>
    obtain ⟨callee, args, argTypes⟩ := c
    cases callee with
    | builtin b =>
      cases b with
      | len =>
        dsimp only at ha
        split at ha
        rotate_left
        · cases ha
        rename_i x hq
        have hargs : args = #[x] := by rw [← Array.toArray_toList (xs := args), hq]
        subst hargs
        have hx := ok x (by simp [Op.operands, Call.operands])
        split at ha
        · rename_i a k c hq2
          rw [hq2] at hx
          split at ha
          rotate_left
          · cases ha
          rename_i ty hty
          split at ha
          rotate_left
          · cases ha
          rename_i e hun
          injection ha with ha; subst ha
          have hm : (#[x] : Array Operand).map t' = #[t' x] := by simp
          have hlen : ∃ a' c', t' x = .slice a' k c' := by
            generalize t' x = z at hx
            cases hx <;> exact ⟨_, _, rfl⟩
          obtain ⟨a', c', hz⟩ := hlen
          refine gives_run (s' := Builtin.len_ argTypes type ((#[x] : Array Operand).map t')) (v' := .int .i64 k) (fun W => ?_) (.int _ _)
          rw [hm, hz]
          simp [Builtin.len_, hty, run_underlying hun, goInt]
        · exact fr ha
      | _ => dsimp only at ha; exact fr ha
    | _ => dsimp only at ha; exact fr ha
  | _ => dsimp only at ha; exact fr ha
end
section
/-- clear, of a slice -/
def clearA (P : Program) (ty : TypeId) (x : Value) (A : AW) : Option AW := match P.underlying ty with
  | some (.slice e) => match x with
    | .slice none _ _ => some A
    | .slice (some ⟨b, o, none⟩) n _ => bif Nat.beq n 0 then some A else match P.info? e with
      | some i => match i.zero with
        | some z => match runA P (storeCells ⟨b, o, none⟩ (Builtin.zeroCells z.cells n).toList) A with
          | some (_, A') => some A'
          | none => none
        | none => none
      | none => none
    | _ => none
  | _ => none
theorem zerosS {P : Program} {B : Nat} {w0 : Base} {ρ : Ren} {b o : Nat} {i : Info} (hi : ρ b = some i) {z : Value} (hv : VR ρ z z) (n : Nat) : Sim P B w0 ρ (storeCells ⟨b, o, none⟩ (Builtin.zeroCells z.cells n).toList) (storeCells ⟨i.g, o + i.sh, none⟩ (Builtin.zeroCells z.cells n).toList) (fun _ _ _ => True) := by
  refine Sim.storeCells _ _ _ _ hi rfl fun j v v' h1 h2 => ?_
  rw [h1] at h2; injection h2 with h2; subst h2
  have hc := hv.cells
  unfold Builtin.zeroCells at h1
  rw [Array.toList_map, List.getElem?_map] at h1
  cases hq : (Array.range (n * z.cells.size)).toList[j]? with
  | none => rw [hq] at h1; cases h1
  | some q =>
    rw [hq] at h1
    injection h1 with h1
    subst h1
    dsimp only
    by_cases hk : q % z.cells.size < z.cells.size
    · rw [getElem!_pos z.cells _ hk]; exact hc.2 _ hk hk
    · rw [getElem!_neg z.cells _ hk]; exact .bool _
theorem clearA_sound {P : Program} {B : Nat} {w0 : Base} {ρ : Ren} {A : AW} {w : World} (hz : Zeros P) (h : SR P B w0 ρ A w) {ty : TypeId} (rt : TypeId) {x x' : Value} (hx : VR ρ x x') {A' : AW} (ha : clearA P ty x A = some A') :
    ∃ ρ' w', (Builtin.clear_ #[ty] rt #[x']).run P w = .ok (.tuple #[]) w' ∧ ρ.le ρ' ∧ SR P B w0 ρ' A' w' := by
  unfold clearA at ha
  split at ha
  rotate_left
  · cases ha
  rename_i e hu
  split at ha
  · injection ha with ha; subst ha
    cases hx
    exact ⟨ρ, w, by simp [Builtin.clear_, run_underlying hu, Result.andThen], Ren.le_refl _, h⟩
  · rename_i ab ao n c
    cases hn : Nat.beq n 0 with
    | true =>
      rw [hn, cond_true] at ha
      obtain rfl := Nat.eq_of_beq_eq_true hn
      injection ha with ha; subst ha
      refine ⟨ρ, w, ?_, Ren.le_refl _, h⟩
      cases hx <;> simp [Builtin.clear_, run_underlying hu, Result.andThen]
    | false =>
      rw [hn, cond_false] at ha
      have hn0 : n ≠ 0 := by intro e; subst e; cases hn
      cases hie : P.info? e with
      | none => rw [hie] at ha; cases ha
      | some ie =>
        rw [hie] at ha
        dsimp only at ha
        cases hzz : ie.zero with
        | none => rw [hzz] at ha; cases ha
        | some z =>
          rw [hzz] at ha
          dsimp only at ha
          cases hr : runA P (storeCells ⟨ab, ao, none⟩ (Builtin.zeroCells z.cells n).toList) A with
          | none => rw [hr] at ha; cases ha
          | some p =>
            obtain ⟨u, A1⟩ := p
            rw [hr] at ha
            injection ha with ha; subst ha
            cases hx with
            | edge => exact absurd rfl hn0
            | @slice bb oo nn cc cc2 ii hi _ =>
              obtain ⟨ρ', v', w', g1, g2, g3, _⟩ := (zerosS (P := P) (B := B) (w0 := w0) hi ((hz e ie z hie hzz) ρ) n).1 A w h u A1 hr
              refine ⟨ρ', w', ?_, g2, g3⟩
              obtain ⟨m, rfl⟩ := Nat.exists_eq_succ_of_ne_zero hn0
              have hzr : (zeroValue e).run P w = .ok z w := by simp [zeroValue, typeInfo, hie, hzz, Result.andThen]
              unfold Builtin.clear_
              dsimp only [List.getElem?_toArray, List.getElem?_cons_zero]
              simp only [Bind.bind]
              show (Sem.bind (underlying ty) _).run P w = _
              rw [run_bind P _ _ w _ _ (run_underlying hu w)]
              have g4 : (Sem.bind (zeroValue e) fun z => Sem.bind (storeCells ⟨ii.g, ao + ii.sh, none⟩ (Builtin.zeroCells z.cells (m + 1)).toList) fun _ => Sem.pure (Value.tuple #[])).run P w = .ok (.tuple #[]) w' := by
                rw [run_bind P _ _ w _ _ hzr, run_bind P _ _ w _ _ g1]; rfl
              exact g4
  · cases ha
/-- copy, of slices -/
def copyA (P : Program) (ts : Array TypeId) (x y : Value) (A : AW) : Option (Value × AW) := match ts.toList with
  | [t, u] => match P.underlying t, P.underlying u, x, y with
    | some (.slice e), some (.slice _), .slice xb n _, .slice yb m _ => match P.info? e with
      | some i => bif Nat.beq (Nat.min m n) 0 then some (.int .i64 0, A) else match xb, yb with
        | some ⟨b, o, none⟩, some ⟨b2, o2, none⟩ => match cellsA A b2 o2 (Nat.min m n * i.size) with
          | some news => match runA P (storeCells ⟨b, o, none⟩ news) A with
            | some (_, A') => some (.int .i64 (Nat.min m n : Int), A')
            | none => none
          | none => none
        | _, _ => none
      | none => none
    | _, _, _, _ => none
  | _ => none
theorem copyA_sound {P : Program} {B : Nat} {w0 : Base} {ρ : Ren} {A : AW} {w : World} (h : SR P B w0 ρ A w) {ts : Array TypeId} (rt : TypeId) {x x' y y' : Value} (hx : VR ρ x x') (hy : VR ρ y y') {v : Value} {A' : AW} (ha : copyA P ts x y A = some (v, A')) :
    ∃ ρ' v' w', (Builtin.copy_ ts rt #[x', y']).run P w = .ok v' w' ∧ ρ.le ρ' ∧ SR P B w0 ρ' A' w' ∧ VR ρ' v v' := by
  unfold copyA at ha
  split at ha
  rotate_left
  · cases ha
  rename_i t u htu
  have hts : ts = #[t, u] := by rw [← Array.toArray_toList (xs := ts), htu]
  subst hts
  split at ha
  rotate_left
  · cases ha
  rename_i e e2 xb n c yb m d ht hu
  split at ha
  rotate_left
  · cases ha
  rename_i i hi
  have hxs : ∃ xb' c', x' = .slice xb' n c' := by cases hx <;> exact ⟨_, _, rfl⟩
  have hys : ∃ yb' d', y' = .slice yb' m d' := by cases hy <;> exact ⟨_, _, rfl⟩
  obtain ⟨xb', c', rfl⟩ := hxs
  obtain ⟨yb', d', rfl⟩ := hys
  cases hq : Nat.beq (Nat.min m n) 0 with
  | true =>
    rw [hq, cond_true] at ha
    injection ha with ha; injection ha with e1 e3; subst e1 e3
    have hmn : Nat.min m n = 0 := Tr.beq_iff.1 hq
    have hf : (Builtin.firstCells i.size 0 (.slice yb' m d')).run P w = .ok #[] w := by
      cases yb' <;> simp [Builtin.firstCells, loadCells, loadCellsFrom]
    refine ⟨ρ, .int .i64 0, w, ?_, Ren.le_refl _, h, .int _ _⟩
    cases xb' <;> simp [Builtin.copy_, run_underlying ht, sizeOf, typeInfo, hi, Builtin.lenOf, hmn, hf, storeCells, goInt, Result.andThen]
  | false =>
    rw [hq, cond_false] at ha
    have hmn : Nat.min m n ≠ 0 := fun hh => by rw [Tr.beq_iff.2 hh] at hq; cases hq
    have hn0 : n ≠ 0 := fun e => hmn (by subst e; exact Nat.min_zero m)
    have hm0 : m ≠ 0 := fun e => hmn (by subst e; exact Nat.zero_min n)
    split at ha
    rotate_left
    · cases ha
    rename_i b o b2 o2
    cases hc : cellsA A b2 o2 (Nat.min m n * i.size) with
    | none => rw [hc] at ha; cases ha
    | some news =>
      rw [hc] at ha
      dsimp only at ha
      cases hr : runA P (storeCells ⟨b, o, none⟩ news) A with
      | none => rw [hr] at ha; cases ha
      | some p =>
        obtain ⟨q, A1⟩ := p
        rw [hr] at ha
        injection ha with ha; injection ha with e1 e3; subst e1 e3
        cases hx with
        | edge => exact absurd rfl hn0
        | slice hi1 hc1 =>
          cases hy with
          | edge => exact absurd rfl hm0
          | slice hi2 hc2 =>
            rename_i c3 j1 c4 j2
            obtain ⟨news', n1, n2⟩ := h.cells hi2 _ _ _ hc
            obtain ⟨ρ', v', w', g1, g2, g3, _⟩ := (Sim.storeCells (P := P) (B := B) (w0 := w0) _ _ _ _ hi1 n1.1 (fun j v v' h1 h2 => n1.2 j v v' h1 h2)).1 A w h q A1 hr
            have hl' : news'.length = Nat.min m n * i.size := by rw [← n1.1]; exact cellsA_len _ _ _ _ hc
            have hf := run_firstCells_some (P := P) w i.size (Nat.min m n) ⟨j2.g, o2 + j2.sh, none⟩ m d' news' hl' (fun j u hu => by rw [add_none]; exact n2 j u hu)
            refine ⟨ρ', .int .i64 (Nat.min m n : Int), w', ?_, g2, g3, .int _ _⟩
            simp [Builtin.copy_, run_underlying ht, sizeOf, typeInfo, hi, Builtin.lenOf, hf, g1, goInt, Result.andThen]
end
end Go.Proofs.YtfeppmhcpfccfaaGreatDoor.Sim
