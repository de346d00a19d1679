/- A fast evaluator, part J: literals of slices; append; calls. Of no program. -/
import Derived.Test.YtnneooidkbhbeaaGreatDoorEvI
set_option linter.unusedVariables false
set_option linter.unusedSimpArgs false
namespace Go.Proofs.YtnneooidkbhbeaaGreatDoor.Fast
open Go Go.RowKit Go.Proofs.YtnneooidkbhbeaaGreatDoor.Sim
noncomputable section

/-- cells stand as rows do -/
structure RowsR (m s : Nat) (r : Rows) (c : Array Value) : Prop where
  size : c.size = m * s
  get : ∀ j, j < m * s → c[j]? = some (cellAt r s j).up
theorem div_iff {j s i : Nat} (hs : 0 < s) : j / s = i ↔ i * s ≤ j ∧ j < i * s + s := by
  constructor
  · intro h
    have h1 := Nat.div_add_mod j s
    have h2 := Nat.mod_lt j hs
    rw [h, Nat.mul_comm] at h1
    omega
  · rintro ⟨h1, h2⟩
    have : j = i * s + (j - i * s) := by omega
    rw [this]
    exact div_of (by omega)
theorem mod_eq {j s i : Nat} (hs : 0 < s) (h : j / s = i) : j % s = j - i * s := by
  have h1 := Nat.div_add_mod j s
  rw [h, Nat.mul_comm] at h1
  omega
section
variable {P : Program} {B : Nat} {w0 : Base} {n : Nat} {gl : Nat → Bool} {dst : Option Tmp} {ty : TypeId} {pos : String} {after : Array Edge} {guard : Option (Nat × Bool)}
theorem partsS_ok {e : TypeId} {m s : Nat} (hs : sizeB P e = s) (h0 : 0 < s) (h1 : s ≤ 64) (h2 : m ≤ 512) : ∀ (l : List (Nat × Operand)) (b : Bs), partsS gl P n e m l = some b → ∀ L t f c k, SlR L t → n ≤ t.size → RowsR m s f c → b L f k = true →
    ∃ f' c', Instr.fill (fun i => some (i * s, s)) c (l.map fun p => (p.1, ev t p.2)) = some c' ∧ RowsR m s f' c' ∧ k f' = true
  | [], b, hb, L, t, f, c, k, hL, hn, hr, h => by
    injection hb with hb; subst hb
    exact ⟨f, c, rfl, hr, h⟩
  | (i, x) :: l, b, hb, L, t, f, c, k, hL, hn, hr, h => by
    unfold partsS at hb
    cases hi : Nat.blt i m with
    | false => rw [hi] at hb; cases hb
    | true =>
      rw [hi] at hb
      have him := blt_lt hi
      cases hr2 : partsS gl P n e m l with
      | none => rw [hr2] at hb; cases hb
      | some r =>
        rw [hr2] at hb
        dsimp only [cond_true] at hb
        unfold segS at hb
        have hle : i * s + s ≤ m * s := by rw [← Nat.succ_mul]; exact Nat.mul_le_mul_right _ him
        cases ha : accOf gl n x with
        | none => rw [ha] at hb; cases hb
        | some a =>
          rw [ha] at hb
          have hacc := accOf_ok ha L t hL hn
          have fin : ∀ (g : Ro) (vs : List Value), (ev t x).cells.toList = vs → vs.length = s → (∀ p, p < s → vs[p]? = some (Lr.get p g).up) → r L (Lw.set i g f) k = true → ∃ f' c', Instr.fill (fun i => some (i * s, s)) c (((i, x) :: l).map fun p => (p.1, ev t p.2)) = some c' ∧ RowsR m s f' c' ∧ k f' = true := by
            intro g vs hv hl hg hk
            obtain ⟨c2, q1, q2, q3⟩ := fill_cons (place := fun i => some (i * s, s)) (rest := l.map fun p => (p.1, ev t p.2)) (cells := c) (i := i) rfl (v := ev t x) (by rw [← Array.length_toList, hv, hl]) (by rw [hr.size]; exact hle)
            have hr' : RowsR m s (Lw.set i g f) c2 := ⟨by rw [q2, hr.size], fun j hj => by
              rw [q3 j, row_set him h0 h2 _ _ hj]
              by_cases hin : j / s = i
              · rw [if_pos ((div_iff h0).1 hin), if_pos hin, ← Array.getElem?_toList, hv, ← mod_eq h0 hin, hg _ (Nat.mod_lt _ h0)]
              · rw [if_neg (fun q => hin ((div_iff h0).2 q)), if_neg hin]; exact hr.get j hj⟩
            obtain ⟨f3, c3, z1, z2, z3⟩ := partsS_ok hs h0 h1 h2 l r hr2 L t _ c2 k hL hn hr' hk
            exact ⟨f3, c3, q1.trans z1, z2, z3⟩
          cases hg : aggB P e with
          | none => rw [hg] at hb; cases hb
          | some q =>
            rw [hg] at hb
            cases q with
            | true =>
              injection hb with hb; subst hb
              obtain ⟨m', g, h3, h4⟩ := rowK_true (show rowK (a L) _ = true from h)
              obtain ⟨h5, h6⟩ := ifK_true h4
              obtain rfl := beq_eq h5
              rw [w512_put (by omega)] at h6
              rw [h3] at hacc
              exact fin g (rowL g (sizeB P e)) (by rw [← hacc]; rfl) (by rw [rowL_len, hs]) (fun p hp => by rw [rowL_get, if_pos (by omega)]) h6
            | false =>
              dsimp only at hb
              cases hs1 : Nat.beq (sizeB P e) 1 with
              | false => rw [hs1] at hb; cases hb
              | true =>
                rw [hs1, cond_true] at hb
                injection hb with hb; subst hb
                have hs2 := beq_eq hs1
                obtain ⟨v, h3, h4⟩ := valK_true (show valK (a L) _ = true from h)
                rw [w512_put (by omega)] at h4
                rw [h3] at hacc
                refine fin (cell1 v) [v.up] (by rw [← hacc]; show (FV.up v).cells.toList = _; rw [oneB_cells (up_one v)]) (by rw [← hs, hs2]; rfl) (fun p hp => ?_) h4
                have : p = 0 := by omega
                subst this
                rw [cell1_at]; rfl
theorem rBuildSlice_ok {s e : TypeId} {len : Nat} {ps : Array (Nat × Operand)} {z : List Value} {b : Bs} (hu : P.underlying s = some (.slice e)) (hz : zeroB P e = some z) (hb : partsS gl P n e len ps.toList = some b) (hl : len ≤ 512) (hz6 : z.length ≤ 64) (hk : okOp ⟨dst, .buildSlice s len ps, ty, pos, after, guard⟩ = true) :
    QOk P n ⟨dst, .buildSlice s len ps, ty, pos, after, guard⟩ (rBuildSlice (rowOf z 0 row0) b len z.length e) := by
  intro rec L F k t A h1 h2 hM h
  obtain ⟨it, v, hi, hv, hcz, hcs, hpos, hzl, hsz, hone⟩ := zeroB_spec hz
  have hszl : sizeB P e = z.length := by rw [hsz, hzl]
  have h0 : 0 < z.length := by omega
  have hini : RowsR len z.length (r8 (r8 (r8 (rowOf z 0 row0)))) ((Array.range (len * it.size)).map (v.cells[· % v.cells.size]!)) := by
    refine ⟨by simp [hzl], fun j hj => ?_⟩
    rw [hzl] at hj
    have hm : j % z.length < z.length := Nat.mod_lt _ h0
    unfold cellAt
    have hd : j / z.length < len := Nat.div_lt_of_lt_mul (by rw [hzl, Nat.mul_comm]; exact hj)
    rw [r8_at _ _ (by omega), ← rowOf_up hz6 hone hm row0, Array.getElem?_map, Array.getElem?_range, if_pos hj, Option.map_some, ← hcz, Array.getElem?_toList]
    have e1 : v.cells.size = z.length := by rw [hcs, hzl]
    rw [hcz, e1, getElem!_pos v.cells _ (by omega), ← Array.getElem?_eq_getElem]
  obtain ⟨f, c, g1, g2, g3⟩ := partsS_ok hszl h0 hz6 hl _ _ hb L t _ _ _ h1 h2 hini h
  have hgh : ghostA P (ev t) ⟨dst, .buildSlice s len ps, ty, pos, after, guard⟩ = some (c, e, some (len, len)) := by
    show (match P.underlying s with | some (.slice e) => _ | _ => none) = _
    rw [hu]
    dsimp only
    rw [hi]
    dsimp only
    rw [hv]
    dsimp only
    have hq : Nat.ble (len * it.size) 16777216 = true := by
      rw [hzl] at hz6
      have q1 : len * it.size ≤ 512 * 64 := Nat.mul_le_mul hl hz6
      exact Nat.ble_eq_true_of_le (by omega)
    rw [hq, cond_true]
    rw [hzl] at g1
    unfold partsA
    rw [g1]
  rw [mk_ghost hk (fun _ => rfl) hgh]
  obtain ⟨h3, h4⟩ := newF_true g3
  refine ⟨hM.room h3, _, _, ?_, hM.add h3 (.blk h0 hz6 hl g2.size g2.get), h4⟩
  rw [hM.next]
  rfl
/-- arguments: places i, i + 1, .. hold what l tells, the others what they held -/
def Laid (l : List Value) (i : Nat) (f f' : Sl) : Prop := ∀ d, d < 512 → (i ≤ d ∧ d < i + l.length → some (Ls.get d f').up = l[d - i]?) ∧ (¬ (i ≤ d ∧ d < i + l.length) → Ls.get d f' = Ls.get d f)
theorem Laid.nil {i : Nat} {f : Sl} : Laid [] i f f := fun d _ => ⟨fun h => absurd h (by simp only [List.length_nil]; omega), fun _ => rfl⟩
theorem Laid.cons {v : Value} {l : List Value} {i : Nat} {f f' : Sl} {s : SV} (hi : i < 512) (hs : s.up = v) (h : Laid l (i + 1) (Ls.set i s f) f') : Laid (v :: l) i f f' := by
  intro d hd
  obtain ⟨h1, h2⟩ := h d hd
  simp only [List.length_cons]
  refine ⟨fun hin => ?_, fun hout => ?_⟩
  · by_cases hdi : d = i
    · subst hdi
      rw [h2 (by omega), Ls_set _ _ hi hd, if_pos rfl, Nat.sub_self, hs]
      rfl
    · rw [h1 (by omega), show d - i = d - (i + 1) + 1 by omega, List.getElem?_cons_succ]
  · rw [h2 (by omega), Ls_set _ _ hi hd, if_neg (by omega)]
theorem Laid.trans {l m : List Value} {i : Nat} {f g h : Sl} (h1 : Laid l i f g) (h2 : Laid m (i + l.length) g h) : Laid (l ++ m) i f h := by
  intro d hd
  obtain ⟨a1, a2⟩ := h1 d hd
  obtain ⟨b1, b2⟩ := h2 d hd
  rw [List.length_append]
  refine ⟨fun hin => ?_, fun hout => ?_⟩
  · by_cases hq : d < i + l.length
    · rw [b2 (by omega), a1 (by omega), List.getElem?_append_left (by omega)]
    · rw [b1 (by omega), List.getElem?_append_right (by omega)]
      congr 1
      omega
  · rw [b2 (by omega), a2 (by omega)]
theorem Laid.arg {l : List Value} {f : Sl} (h : Laid l 0 slots0 f) (hl : l.length ≤ 512) {args : Array Value} (ha : args.toList = l) : ArgR f args := by
  have hs : args.size = l.length := by rw [← Array.length_toList, ha]
  refine ⟨by omega, fun d hd => ?_, fun d hd hd2 => ?_⟩
  · rw [(h d (by omega)).1 (by omega), ← ha, Array.getElem?_toList]
    rfl
  · rw [(h d hd2).2 (by omega)]
    show SV.up ((L512 SV).get d (r8 (r8 (r8 u0)))) = undef
    rw [r8_at _ _ hd2]
    rfl
theorem agOf_ok : ∀ (l : List Operand) (i : Nat) (s : Ag), agOf gl n l i = some s → ∀ L t f k, SlR L t → n ≤ t.size → s L f k = true → ∃ f', k f' = true ∧ Laid (l.map (ev t)) i f f' ∧ (l = [] ∨ i + l.length ≤ 512)
  | [], i, s, hs, L, t, f, k, hL, hn, h => by
    injection hs with hs; subst hs
    exact ⟨f, h, Laid.nil, .inl rfl⟩
  | x :: l, i, s, hs, L, t, f, k, hL, hn, h => by
    unfold agOf at hs
    cases ha : accOf gl n x with
    | none => rw [ha] at hs; cases hs
    | some a =>
      rw [ha] at hs
      cases hr : agOf gl n l (i + 1) with
      | none => rw [hr] at hs; cases hs
      | some r =>
        rw [hr] at hs
        dsimp only at hs
        cases hq : Nat.blt i 512 with
        | false => rw [hq] at hs; cases hs
        | true =>
          rw [hq, cond_true] at hs
          injection hs with hs; subst hs
          have hi := blt_lt hq
          have h1 : svF (a L) (fun v => (w512 SV i).put v f fun f => r L f k) = true := h
          rw [svF_eq, w512_put hi] at h1
          obtain ⟨f', h2, h3, h4⟩ := agOf_ok l (i + 1) r hr L t _ k hL hn h1
          refine ⟨f', h2, Laid.cons hi (accOf_ok ha L t hL hn) h3, .inr ?_⟩
          simp only [List.length_cons]
          rcases h4 with rfl | h4
          · simp only [List.length_nil]; omega
          · omega
theorem ahOf_ok : ∀ (l : List Operand) (s : Ah), ahOf gl n l = some s → ∀ L t i f k, SlR L t → n ≤ t.size → s L i f k = true → ∃ f', k (i + l.length) f' = true ∧ Laid (l.map (ev t)) i f f' ∧ (l = [] ∨ i + l.length ≤ 512)
  | [], s, hs, L, t, i, f, k, hL, hn, h => by
    injection hs with hs; subst hs
    exact ⟨f, h, Laid.nil, .inl rfl⟩
  | x :: l, s, hs, L, t, i, f, k, hL, hn, h => by
    unfold ahOf at hs
    cases ha : accOf gl n x with
    | none => rw [ha] at hs; cases hs
    | some a =>
      rw [ha] at hs
      cases hr : ahOf gl n l with
      | none => rw [hr] at hs; cases hs
      | some r =>
        rw [hr] at hs
        injection hs with hs; subst hs
        obtain ⟨hq, h1⟩ := ifK_true (show ifK (Nat.blt i 512) _ bad = true from h)
        have hi := blt_lt hq
        rw [svF_eq, w512_put hi] at h1
        obtain ⟨f', h2, h3, h4⟩ := ahOf_ok l r hr L t (i + 1) _ k hL hn h1
        refine ⟨f', by rw [List.length_cons, show i + (l.length + 1) = i + 1 + l.length by omega]; exact h2, Laid.cons hi (accOf_ok ha L t hL hn) h3, .inr ?_⟩
        simp only [List.length_cons]
        rcases h4 with rfl | h4
        · simp only [List.length_nil]; omega
        · omega
theorem argsL_ok : ∀ (l : List Value) (i : Nat) (f : Sl) (k : Nat → Sl → R), argsL l i f k = true → ∃ f', k (i + l.length) f' = true ∧ Laid l i f f' ∧ (l = [] ∨ i + l.length ≤ 512)
  | [], i, f, k, h => ⟨f, h, Laid.nil, .inl rfl⟩
  | v :: l, i, f, k, h => by
    obtain ⟨hq, h1⟩ := ifK_true (show ifK (Nat.blt i 512) (svV v fun v => (w512 SV i).put v f fun f => num (Nat.succ i) fun i => argsL l i f k) bad = true from h)
    have hi := blt_lt hq
    obtain ⟨s, hs, h2⟩ := svV_true h1
    rw [w512_put hi] at h2
    obtain ⟨f', h3, h4, h5⟩ := argsL_ok l (i + 1) _ k h2
    refine ⟨f', by rw [List.length_cons, show i + (l.length + 1) = i + 1 + l.length by omega]; exact h3, Laid.cons hi hs h4, .inr ?_⟩
    simp only [List.length_cons]
    rcases h5 with rfl | h5
    · simp only [List.length_nil]; omega
    · omega
theorem hasB_spec {g : FuncId} (h : hasB P g = true) : ∃ fn, P.funcs[g]? = some fn ∧ fn.body.isSome = true := by
  unfold hasB at h
  cases hq : Nat.blt g yB with
  | false => rw [hq] at h; cases h
  | true =>
    rw [hq, cond_true] at h
    cases hf : P.funcs[g]? with
    | none => rw [hf] at h; cases h
    | some fn => rw [hf] at h; exact ⟨fn, rfl, h⟩
theorem hasB_lt {g : FuncId} (h : hasB P g = true) : g < yB := by
  unfold hasB at h
  cases hq : Nat.blt g yB with
  | false => rw [hq] at h; cases h
  | true => exact blt_lt hq
theorem opA_call {f : Operand} {args : Array Operand} {ts : Array TypeId} {t : Operand → Value} {A : AW} {g : FuncId} {fs cs : Array Value} (hk : okOp ⟨dst, .call ⟨.value f, args, ts⟩, ty, pos, after, guard⟩ = true) (hf : t f = .func (.func g) fs cs) (hb : hasB P g = true) :
    opA P t ⟨dst, .call ⟨.value f, args, ts⟩, ty, pos, after, guard⟩ A = some (.enter g (fs ++ evs t args ++ cs), A) := by
  obtain ⟨fn, h1, h2⟩ := hasB_spec hb
  unfold opA
  rw [hk, cond_true]
  dsimp only
  rw [hf]
  dsimp only
  rw [h1]
  dsimp only
  rw [h2]
  rfl
theorem rCallF_ok {g : FuncId} {args : Array Operand} {ts : Array TypeId} {s : Ag} (hs : agOf gl n args.toList 0 = some s) (hb : hasB P g = true) (hk : okOp ⟨dst, .call ⟨.value (.func g), args, ts⟩, ty, pos, after, guard⟩ = true) : LOk P B w0 n ⟨dst, .call ⟨.value (.func g), args, ts⟩, ty, pos, after, guard⟩ (rCallF g s) := by
  intro rec L F k t A hR h1 h2 hM h
  obtain ⟨f', h3, h4, h5⟩ := agOf_ok _ _ _ hs L t slots0 _ h1 h2 h
  rw [opA_call hk (show ev t (.func g) = .func (.func g) #[] #[] from rfl) hb]
  refine hR.2.1 g f' F A _ k (hasB_lt hb) (h4.arg ?_ ?_) hM h3
  · rw [List.length_map]
    rcases h5 with h5 | h5
    · rw [h5]; simp
    · omega
  · simp [evs]
theorem callV_true {x : FV} {kf : FuncId → List Value → List Value → R} {ky : Nat → R} (h : callV x kf ky = true) : (∃ g f c, x = .fn g f c ∧ kf g f c = true) ∨ ∃ b fs cs, x = .val (.func (.yield b) fs cs) ∧ ky b = true := by
  cases x with
  | fn g f c => exact .inl ⟨g, f, c, rfl, h⟩
  | val v =>
    have h : yldV v ky = true := h
    unfold yldV at h
    split at h
    · exact .inr ⟨_, _, _, rfl, h⟩
    · exact not_bad h
  | _ => exact not_bad h
theorem lenN_eq : ∀ (l : List Nat), lenN l = l.length
  | [] => rfl
  | _ :: l => by
    show Nat.succ (lenN l) = _
    rw [lenN_eq l]
    rfl
theorem rCallV_ok {f : Operand} {a : Acc} {args : Array Operand} {ts : Array TypeId} {s : Ah} (ha : AccOk n f a) (hs : ahOf gl n args.toList = some s) (hk : okOp ⟨dst, .call ⟨.value f, args, ts⟩, ty, pos, after, guard⟩ = true) : LOk P B w0 n ⟨dst, .call ⟨.value f, args, ts⟩, ty, pos, after, guard⟩ (rCallV P a s) := by
  intro rec L F k t A hR h1 h2 hM h
  obtain ⟨v, h3, h4⟩ := valK_true h
  rcases callV_true h4 with ⟨g, fs, cs, rfl, h4⟩ | ⟨b, fs, cs, rfl, h4⟩
  rotate_left
  · obtain ⟨f2, h7, q2, r2⟩ := ahOf_ok _ _ hs L t _ _ _ h1 h2 h4
    obtain ⟨hb, L0, n0, ps, a0, c0, st, pend, h8, h9⟩ := lpK_true h7
    obtain ⟨q3, h10⟩ := ifK_true h9
    obtain ⟨tmps, q4, q5, q6⟩ := hM.loop hb h8
    have e1 : ev t f = .func (.yield b) fs cs := (ha L t h1 h2).symm.trans (by rw [h3]; rfl)
    have hsz : args.size = ps.length := by
      have := beq_eq q3
      rw [lenN_eq, Nat.zero_add, Array.length_toList] at this
      exact this
    have hop : opA P (ev t) ⟨dst, .call ⟨.value f, args, ts⟩, ty, pos, after, guard⟩ A = some (.round b ((ps.toArray.zip (evs (ev t) args)).foldl (fun tmps (p, a) => tmps.setIfInBounds p a) tmps) a0 c0, A) := by
      unfold opA
      rw [hk, cond_true]
      dsimp only
      rw [e1]
      dsimp only
      rw [q4]
      show (bif Nat.beq args.size (Array.size ⟨ps⟩) then _ else none) = _
      rw [show Nat.beq args.size (Array.size ⟨ps⟩) = true from Tr.beq_iff.2 (by rw [hsz]; rfl)]
      rfl
    rw [hop]
    dsimp only
    have hl : Laid (args.toList.map (ev t)) 0 slots0 f2 := q2
    have harg : ArgR f2 (evs (ev t) args) := hl.arg (by
      rw [List.length_map]
      rcases r2 with r | r
      · rw [r]; simp
      · omega) (by simp [evs])
    exact hR.2.2.1 b f2 F A (evs (ev t) args) k (recOf tmps ps a0 c0 st pend) hb harg hM q4 (by simp [evs, recOf, hsz]) h10
  obtain ⟨hb, h5⟩ := ifK_true h4
  obtain ⟨f1, h6, q1, r1⟩ := argsL_ok _ _ _ _ h5
  obtain ⟨f2, h7, q2, r2⟩ := ahOf_ok _ _ hs L t _ _ _ h1 h2 h6
  obtain ⟨f3, h8, q3, r3⟩ := argsL_ok _ _ _ _ h7
  have e1 : ev t f = .func (.func g) ⟨fs⟩ ⟨cs⟩ := (ha L t h1 h2).symm.trans (by rw [h3]; rfl)
  rw [opA_call hk e1 hb]
  have hl : Laid (fs ++ args.toList.map (ev t) ++ cs) 0 slots0 f3 := (q1.trans q2).trans (by rw [List.length_append, List.length_map]; rw [← Nat.add_assoc]; exact q3)
  refine hR.2.1 g f3 F A _ k (hasB_lt hb) (hl.arg ?_ ?_) hM h8
  · simp only [List.length_append, List.length_map]
    have b1 : fs.length ≤ 512 := by rcases r1 with r | r; · rw [r]; simp
                                    · omega
    have b2 : fs.length + args.toList.length ≤ 512 := by
      rcases r2 with r | r
      · rw [r]; simp only [List.length_nil]; omega
      · omega
    rcases r3 with r | r
    · rw [r]; simp only [List.length_nil]; omega
    · omega
  · simp [evs]
end
end
end Go.Proofs.YtnneooidkbhbeaaGreatDoor.Fast
