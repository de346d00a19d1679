/- A fast evaluator, part N: plans, regions, code, calls: what it brings to an end is so in every world. Of no program. -/
import Derived.Test.YtnneooidkbhbeaaGreatDoorEvP
set_option linter.unusedVariables false
set_option linter.unusedSimpArgs false
namespace Go.Proofs.YtnneooidkbhbeaaGreatDoor.Fast
open Go Go.RowKit Go.Proofs.YtnneooidkbhbeaaGreatDoor.Sim
noncomputable section
section
variable {P : Program} {B : Nat} {w0 : Base} {n : Nat} {ops : Array Oper}
/-- an operation that is done, whatever it is -/
theorem step_true {i : Nat} {rec : Rc} (hR : RcOk P B w0 rec) {L : Sl} {F : FM} {k : Sl → FM → R} {t : Array Value} {A : AW} (hL : SlR L t) (hn : n ≤ t.size) (hM : MR F A) (h : stepOf w0.gl P n ops i rec L F k = true) : ∃ o, ops[i]? = some o ∧
    (bif Region.wanted o (yielded ops t) then (bif loudB o then stepW P B w0 t o A fun v A' => KK n k (putA t o.dst v) A' else quietW P w0.gl t o A fun v A' => KK n k (putA t o.dst v) A') else KK n k (putA t o.dst undef) A) := by
  obtain ⟨o, ho, hd, h5, hk, hgl, hgh, hp⟩ := stepOf_true h
  refine ⟨o, ho, ?_⟩
  obtain ⟨k', h1, h2⟩ := putS_true hL hn hd h5 hp
  rcases guardOf_true hL hn h1 with ⟨hw, h3⟩ | ⟨hw, h3⟩
  · rw [hw, cond_true]
    cases hl : loudB o with
    | true => exact loud_step hl hk hgl hR hL hn hM h3 h2
    | false => exact quiet_step hl hd hk hgl hgh hL hn hM h3 h2
  · rw [hw, cond_false]
    exact h2 _ _ ⟨u0, F, rfl, hM, h3⟩
theorem runS_cons {f : RS} {l : List Stp} {rec : Rc} {L : Sl} {F : FM} {k : Sl → FM → R} (h : runS (.mk f :: l) rec L F k = true) : f rec L F (fun L F => pass (runS l rec L F k)) = true := h
/-- a region in the text's order -/
theorem ops_true {rec : Rc} (hR : RcOk P B w0 rec) {k : Sl → FM → R} : ∀ (l : List Nat) {L : Sl} {F : FM} {t : Array Value} {A : AW}, SlR L t → n ≤ t.size → MR F A → runS (l.map fun i => .mk (stepOf w0.gl P n ops i)) rec L F k = true → opsW P B w0 ops (KK n k) l t A
  | [], L, F, t, A, hL, hn, hM, h => ⟨L, F, hL, hn, hM, h⟩
  | i :: l, L, F, t, A, hL, hn, hM, h => by
    obtain ⟨o, ho, h1⟩ := step_true hR hL hn hM (runS_cons h)
    have next : ∀ t A, KK n (fun L F => pass (runS (l.map fun i => .mk (stepOf w0.gl P n ops i)) rec L F k)) t A → opsW P B w0 ops (KK n k) l t A := by
      rintro t A ⟨S, F, g1, g2, g3, g4⟩
      exact ops_true hR l g1 g2 g3 g4
    unfold opsW
    rw [ho]
    dsimp only
    cases hw : Region.wanted o (yielded ops t) with
    | false => rw [hw, cond_false] at h1; rw [cond_false]; exact next _ _ h1
    | true =>
      rw [hw, cond_true] at h1
      rw [cond_true]
      cases hl : loudB o with
      | true =>
        rw [hl, cond_true] at h1
        rw [cond_true]
        exact stepW_mono h1 fun v A' hv => next _ _ hv
      | false =>
        rw [hl, cond_false] at h1
        rw [cond_false]
        exact quietW_mono h1 fun v A' hv => next _ _ hv
theorem apartK_true {x y : SV} {m1 m2 : Nat} {k : R} (h : apartK x y m1 m2 k = true) : ∃ b1 o1 b2 o2, x = .val (.ptr b1 o1) ∧ y = .val (.ptr b2 o2) ∧ b1 < 32768 ∧ b2 < 32768 ∧ 0 < m1 ∧ 0 < m2 ∧ (b1 ≠ b2 ∨ o1 + m1 ≤ o2 ∨ o2 + m2 ≤ o1) ∧ k = true := by
  obtain ⟨b1, o1, h1, h⟩ := ptrK_true h
  obtain ⟨b2, o2, h2, h⟩ := ptrK_true h
  obtain ⟨h3, h4⟩ := ifK_true h
  rw [Bool.and_eq_true, Bool.and_eq_true, Bool.and_eq_true, Bool.and_eq_true, Bool.or_eq_true, Bool.or_eq_true, Bool.not_eq_true'] at h3
  obtain ⟨⟨⟨⟨q1, q2⟩, q3⟩, q4⟩, q5⟩ := h3
  refine ⟨b1, o1, b2, o2, h1, h2, blt_lt q1, blt_lt q2, blt_lt q3, blt_lt q4, ?_, h4⟩
  rcases q5 with (q5 | q5) | q5
  · exact .inl fun e => by rw [e, Nat.beq_refl] at q5; cases q5
  · exact .inr (.inl (Nat.le_of_ble_eq_true q5))
  · exact .inr (.inr (Nat.le_of_ble_eq_true q5))
theorem bothK_true {x y : R} (h : bothK x y = true) : x = true ∧ y = true := by cases x <;> first | exact ⟨rfl, h⟩ | exact not_bad h
/-- one store of a pair -/
theorem store_true {i : Nat} {rec : Rc} (hR : RcOk P B w0 rec) {L : Sl} {F : FM} {k : Sl → FM → R} {t : Array Value} {A : AW} (hL : SlR L t) (hn : n ≤ t.size) (hM : MR F A) {o : Oper} (ho : ops[i]? = some o) {s : TypeId} {x y : Operand} (hop : o.op = .store s x y) (hg : o.guard.isNone = true) (hd : o.dst.isNone = true) {b of : Nat} (hb : b < 32768) (hx : ev t x = .pointer (some ⟨b, of, none⟩)) (hpos : 0 < sizeB P s)
    (h : stepOf w0.gl P n ops i rec L F k = true) : ∃ A', glOp w0.gl o = true ∧ opA P (ev t) o A = some (.skip, A') ∧ KK n k t A' ∧ (ev t y).cells.toList.length = sizeB P s ∧ Upd A A' b of (ev t y).cells.toList := by
  obtain ⟨o', ho', h1⟩ := step_true hR hL hn hM h
  rw [ho] at ho'; injection ho' with ho'; subst ho'
  have hl : loudB o = true := by unfold loudB; rw [hop]
  rw [wanted_none hg, cond_true, hl, cond_true] at h1
  obtain ⟨A', q1, q2, q3, q4⟩ := stepW_store hop hb hx hpos h1
  rw [putA_none hd] at q2
  exact ⟨A', h1.1, q1, q2, q3, q4⟩
theorem loudW_of {i : Nat} {re : List Nat} {K : Array Value → AW → Prop} {t : Array Value} {A A' : AW} {o : Oper} (ho : ops[i]? = some o) (hg : o.guard.isNone = true) (hd : o.dst.isNone = true) (hgl : glOp w0.gl o = true) (hop : opA P (ev t) o A = some (.skip, A')) (h1 : againP P ops t A' re) (h2 : K t A') : loudW P B w0 ops i re K t A := by
  unfold loudW
  rw [ho]
  dsimp only
  rw [wanted_none hg, cond_true]
  refine ⟨hgl, ?_⟩
  rw [hop]
  dsimp only
  rw [putA_none hd]
  exact ⟨h1, h2⟩
theorem pair_true {i j : Nat} {ri rj : List Nat} {rec : Rc} (hR : RcOk P B w0 rec) {L : Sl} {F : FM} {k : Sl → FM → R} {t : Array Value} {A : AW} (hL : SlR L t) (hn : n ≤ t.size) (hM : MR F A) (h : pairOf w0.gl P n ops i j ri rj rec L F k = true) {K : Array Value → AW → Prop} (hK : ∀ t A, KK n k t A → K t A) :
    loudW P B w0 ops i ri (loudW P B w0 ops j rj K) t A ∧ loudW P B w0 ops j rj (loudW P B w0 ops i ri K) t A := by
  generalize hf : pairOf w0.gl P n ops i j ri rj = f at h
  unfold pairOf at hf
  split at hf
  rotate_left
  · subst hf; exact not_bad h
  rename_i o1 o2 ho1 ho2
  split at hf
  rotate_left
  · subst hf; exact not_bad h
  rename_i s1 x1 y1 s2 x2 y2 hp1 hp2
  split at hf
  rotate_left
  · subst hf; exact not_bad h
  rename_i a1 a2 ha1 ha2
  subst hf
  cases hq : (o1.guard.isNone && o2.guard.isNone && o1.dst.isNone && o2.dst.isNone) with
  | false => rw [hq] at h; exact not_bad h
  | true =>
    rw [hq, cond_true] at h
    rw [Bool.and_eq_true, Bool.and_eq_true, Bool.and_eq_true] at hq
    obtain ⟨⟨⟨g1, g2⟩, d1⟩, d2⟩ := hq
    obtain ⟨b1, f1, b2, f2, e1, e2, l1, l2, p1, p2, ap, hb⟩ := apartK_true h
    obtain ⟨hji, hij⟩ := bothK_true hb
    have v1 : ev t x1 = .pointer (some ⟨b1, f1, none⟩) := (accOf_ok ha1 L t hL hn).symm.trans (by rw [e1]; rfl)
    have v2 : ev t x2 = .pointer (some ⟨b2, f2, none⟩) := (accOf_ok ha2 L t hL hn).symm.trans (by rw [e2]; rfl)
    -- the one order
    obtain ⟨A1, gl1, op1, ⟨L1, F1, sl1, n1, m1, c1⟩, len1, u1⟩ := store_true hR hL hn hM ho1 hp1 g1 d1 l1 v1 p1 hij
    obtain ⟨ag1, L2, F2, sl2, n2, m2, c2⟩ := againOf_true ri sl1 n1 m1 c1
    obtain ⟨A12, gl2, op2, ⟨L3, F3, sl3, n3, m3, c3⟩, len2, u2⟩ := store_true hR sl2 n2 m2 ho2 hp2 g2 d2 l2 v2 p2 c2
    obtain ⟨ag2, L4, F4, sl4, n4, m4, c4⟩ := againOf_true rj sl3 n3 m3 c3
    -- the other
    obtain ⟨A2, _, op3, ⟨L5, F5, sl5, n5, m5, c5⟩, _, u3⟩ := store_true hR hL hn hM ho2 hp2 g2 d2 l2 v2 p2 hji
    obtain ⟨ag3, L6, F6, sl6, n6, m6, c6⟩ := againOf_true rj sl5 n5 m5 c5
    obtain ⟨A21, _, op4, ⟨L7, F7, sl7, n7, m7, c7⟩, _, u4⟩ := store_true hR sl6 n6 m6 ho1 hp1 g1 d1 l1 v1 p1 c6
    obtain ⟨ag4, _⟩ := againOf_true ri sl7 n7 m7 c7
    obtain ⟨s1', s2'⟩ := Upd.swap u1 u2 u3 u4 (by rw [len1, len2]; exact ap)
    refine ⟨loudW_of ho1 g1 d1 gl1 op1 ag1 (loudW_of ho2 g2 d2 gl2 op2 ag2 (hK t A12 ⟨L4, F4, sl4, n4, m4, c4⟩)), loudW_of ho2 g2 d2 gl2 op3 ag3 (loudW_of ho1 g1 d1 gl1 op4 ag4 (hK t A21 ⟨L4, F4, sl4, n4, m4.ext s1' s2', c4⟩))⟩
/-- an assignment as a loud operation -/
theorem asg_step {t : Array Value} {o : Oper} {A : AW} {K : Value → AW → Prop} (ho : asgB o = true) (h : quietW P w0.gl t o A K) : stepW P B w0 t o A K := by
  obtain ⟨dst, op, ty, pos, after, guard⟩ := o
  cases op with
  | assign x =>
    obtain ⟨hg, h⟩ := h
    refine ⟨hg, ?_⟩
    cases hk : okOp ⟨dst, .assign x, ty, pos, after, guard⟩ with
    | false =>
      unfold quietA at h
      rw [hk] at h
      exact h.elim
    | true =>
      have hq : quietA P (ev t) A ⟨dst, .assign x, ty, pos, after, guard⟩ = some (.val (ev t x)) := quiet_pure hk rfl rfl
      rw [hq] at h
      have hop : opA P (ev t) ⟨dst, .assign x, ty, pos, after, guard⟩ A = some (.val (ev t x), A) := by
        unfold opA
        rw [hk]
        rfl
      rw [hop]
      exact h
  | _ => cases ho
/-- .. by its plan -/
theorem plan_true {rec : Rc} (hR : RcOk P B w0 rec) {k : Sl → FM → R} : ∀ (s : List PS) {L : Sl} {F : FM} {t : Array Value} {A : AW}, s.all (kindOk ops) = true → SlR L t → n ≤ t.size → MR F A → runS (planStp w0.gl P n ops s) rec L F k = true → planW P B w0 ops (KK n k) s t A
  | [], L, F, t, A, _, hL, hn, hM, h => ⟨L, F, hL, hn, hM, h⟩
  | x :: s, L, F, t, A, hall, hL, hn, hM, h => by
    rw [List.all_cons, Bool.and_eq_true] at hall
    obtain ⟨hx, hs⟩ := hall
    have next : ∀ t A, KK n (fun L F => pass (runS (planStp w0.gl P n ops s) rec L F k)) t A → planW P B w0 ops (KK n k) s t A := by
      rintro t A ⟨S, F, g1, g2, g3, g4⟩
      exact plan_true hR s hs g1 g2 g3 g4
    cases x with
    | quiet i =>
      obtain ⟨o, ho, h1⟩ := step_true hR hL hn hM (runS_cons h)
      have hl : loudB o = false := by unfold kindOk at hx; dsimp only at hx; rw [ho] at hx; simpa using hx
      unfold planW
      rw [ho]
      dsimp only
      cases hw : Region.wanted o (yielded ops t) with
      | false => rw [hw, cond_false] at h1; rw [cond_false]; exact next _ _ h1
      | true =>
        rw [hw, cond_true, hl, cond_false] at h1
        rw [cond_true]
        exact quietW_mono h1 fun v A' hv => next _ _ hv
    | pair i j ri rj => exact pair_true hR hL hn hM (runS_cons h) next
    | loud i re =>
      have fin : ∀ {k2 : Sl → FM → R}, stepOf w0.gl P n ops i rec L F k2 = true → (∀ t A, KK n k2 t A → againP P ops t A re ∧ planW P B w0 ops (KK n k) s t A) → planW P B w0 ops (KK n k) (.loud i re :: s) t A := by
        intro k2 h0 hk2
        obtain ⟨o, ho, h1⟩ := step_true hR hL hn hM h0
        have hl : (loudB o || asgB o) = true := by unfold kindOk at hx; dsimp only at hx; rw [ho] at hx; exact hx
        unfold planW loudW
        rw [ho]
        dsimp only
        cases hw : Region.wanted o (yielded ops t) with
        | false => rw [hw, cond_false] at h1; rw [cond_false]; exact (hk2 _ _ h1).2
        | true =>
          rw [hw, cond_true] at h1
          rw [cond_true]
          cases hlb : loudB o with
          | true =>
            rw [hlb, cond_true] at h1
            exact stepW_mono h1 fun v A' hv => hk2 _ _ hv
          | false =>
            rw [hlb, cond_false] at h1
            rw [hlb, Bool.false_or] at hl
            exact stepW_mono (asg_step hl h1) fun v A' hv => hk2 _ _ hv
      cases re with
      | nil => exact fin (runS_cons h) fun t A hq => ⟨fun j hj => (by cases hj), next t A hq⟩
      | cons r re =>
        have h0 : stepOf w0.gl P n ops i rec L F (fun L F => pass (againOf w0.gl P n ops (r :: re) rec L F (fun L F => pass (runS (planStp w0.gl P n ops s) rec L F k)))) = true := h
        refine fin h0 ?_
        rintro t2 A2 ⟨S, F2, g1, g2, g3, g4⟩
        obtain ⟨f1, f2⟩ := againOf_true (r :: re) g1 g2 g3 g4
        exact ⟨f1, next _ _ f2⟩
theorem RcOk.but {rec : Rc} (h : RcOk P B w0 rec) (Γ : Nat → ABk → Prop) (M : List Nat) : RcOk P B ((w0.but Γ).marked M) rec := h
/-- how things stand behind code -/
def KC (n : Nat) (K : Kc) (e : AE) (t : Array Value) (A : AW) : Prop := ∃ S F, SlR S t ∧ n ≤ t.size ∧ MR F A ∧ K e S F = true
theorem region_true (G : Sim.Good P) {rec : Rc} (hR : RcOk P B w0 rec) {id : Nat} {draw : Bool} {K : Kc} {L : Sl} {F : FM} {t : Array Value} {A : AW} (hL : SlR L t) (hn : n ≤ t.size) (hM : MR F A) (h : runS (regOf w0.gl P n ops draw) rec L F (fun M F => K .normal M F) = true) : CodeS P B w0 (.region id ops draw) t A (KC n K) := by
  unfold regOf at h
  cases draw with
  | false =>
    rw [cond_false] at h
    exact CodeS.region G fun Γ M => ops_true (hR.but Γ M) _ hL hn hM h
  | true =>
    rw [cond_true] at h
    dsimp only at h
    cases hq : (ancOk ops (fun k => (ancL ops.toList []).getD k 0) && okPlan ops (fun k => (ancL ops.toList []).getD k 0) (planOf (oisOf ops ops.toList (ancL ops.toList []) 0) (ops.size + 1) 0) 0 && (planOf (oisOf ops ops.toList (ancL ops.toList []) 0) (ops.size + 1) 0).all (kindOk ops)) with
    | false =>
      rw [hq] at h
      exact not_bad h
    | true =>
      rw [hq, cond_true] at h
      rw [Bool.and_eq_true, Bool.and_eq_true] at hq
      exact CodeS.drawn G hq.1.1 hq.1.2 fun Γ M => plan_true (hR.but Γ M) _ hq.2 hL hn hM h
theorem CallS_mono {f : FuncId} {args : Array Value} {A : AW} {K K' : Value → AW → Prop} (h : CallS P B w0 f args A K) (hK : ∀ v A, K v A → K' v A) : CallS P B w0 f args A K' := by
  intro Γ M ρ w args' g1 g2
  refine (h Γ M ρ w args' g1 g2).mono ?_
  rintro e w' ⟨ρ', v, v', A', e1, e2, e3⟩
  exact ⟨ρ', v, v', A', e1, hK _ _ e2, e3⟩
theorem stOf_busy : ∀ st, stOf st = .busy → st = 1
  | 0, h => nomatch h
  | 1, _ => rfl
  | 2, h => nomatch h
  | _ + 3, h => nomatch h
/-- a range over a function -/
theorem range_true (G : Sim.Good P) {rec : Rc} (hR : RcOk P B w0 rec) (hrd : w0.rd = none) {g : Operand} {y : Acc} (hx : accOf w0.gl n g = some y) {ps : Array Tmp} {a b : Code} {K : Kc} {L : Sl} {F : FM} {t : Array Value} {A : AW} (hL : SlR L t) (hn : n ≤ t.size) (hM : MR F A) (h : rangeK y (hasB P) n ps.toList a b rec L F K = true) : CodeS P B w0 (.rangeFunc g ps a b) t A (KC n K) := by
  unfold rangeK at h
  obtain ⟨gf, fs, cs, h1, h2⟩ := funK_true h
  obtain ⟨h3, h4⟩ := ifK_true h2
  obtain ⟨h5, h6⟩ := ifK_true h4
  obtain ⟨h7, h8⟩ := newF_true h6
  have hfs : fs = [] := by
    cases fs with
    | nil => rfl
    | cons => cases h3
  subst hfs
  rw [w512_put (by decide)] at h8
  obtain ⟨f', h9, q1, r1⟩ := argsL_ok _ _ _ _ h8
  obtain ⟨o1, o2⟩ := accOf_okX hx
  have hv : ev t g = .func (.func gf) #[] ⟨cs⟩ := (accOf_ok hx L t hL hn).symm.trans (by rw [h1]; rfl)
  obtain ⟨fn, k1, k2⟩ := hasB_spec h5
  rw [← hM.next] at h9 q1
  have hl : Laid (.func (.yield A.next) #[] #[] :: cs) 0 slots0 f' := Laid.cons (by decide) rfl q1
  have hM1 : MR ⟨Lh.set F.next (.loop L n ps.toList a b 0 .normal) F.heap, F.next + 1⟩ (A.add ⟨.loop { state := .ready, pending := none, fn := 0, tmps := t, params := ps, assign := a, body := b, defers := 0 }, false, false⟩) := hM.add h7 (.loop (st := 0) (pend := .normal) hL hn)
  rw [← hM.next] at hM1
  have hlen : (Value.func (.yield A.next) #[] #[] :: cs).length ≤ 512 := by
    rw [List.length_cons]
    rcases r1 with r | r
    · rw [r]; decide
    · omega
  refine CodeS.range G hrd o1 o2 hv k1 k2 (hM.room h7) ?_
  refine CallS_mono (hR.2.1 gf f' _ _ (#[.func (.yield A.next) #[] #[]] ++ ⟨cs⟩) _ (hasB_lt h5) (hl.arg hlen (by simp)) hM1 h9) ?_
  rintro v A1 ⟨sv, F1, p1, p2, p3⟩
  obtain ⟨hb, L2, n2, ps2, a2, b2, st, pend, s1, s2⟩ := lpK_true p3
  obtain ⟨s3, s4⟩ := ifK_true s2
  obtain ⟨tmps, s5, s6, s7⟩ := p2.loop hb s1
  have s8 := putF_true hb s4
  have hM2 := p2.putA hb (BlkR.loop (ps := ps2) (a := a2) (b := b2) (st := 3) (pend := pend) s6 s7)
  have hst : stOf st ≠ .busy := by
    intro e
    obtain rfl := stOf_busy st e
    cases s3
  refine ⟨_, s5, hst, ?_⟩
  cases pend with
  | normal => exact ⟨L, _, hL, hn, hM2, s8⟩
  | ret => exact ⟨L, _, hL, hn, hM2, s8⟩
  | exit id => exact ⟨L, _, hL, hn, hM2, s8⟩
theorem nr2 {p : Prop} {a b : Bool} (h : p ∨ (a && b) = true) : (p ∨ a = true) ∧ (p ∨ b = true) := by
  rcases h with h | h
  · exact ⟨.inl h, .inl h⟩
  · rw [Bool.and_eq_true] at h
    exact ⟨.inr h.1, .inr h.2⟩
theorem code_true (G : Sim.Good P) (fuel : Nat) {rec : Rc} (hR : RcOk P B w0 rec) : ∀ (c : Code), (w0.rd = none ∨ noRange c = true) → ∀ {K : Kc} {L : Sl} {F : FM} {t : Array Value} {A : AW}, SlR L t → n ≤ t.size → MR F A → runC fuel rec (compC w0.gl P n c) L F K = true → CodeS P B w0 c t A (KC n K) := by
  intro c
  induction c with
  | skip => intro _ K L F t A hL hn hM h; exact CodeS.skip ⟨L, F, hL, hn, hM, h⟩
  | label l => intro _ K L F t A hL hn hM h; exact CodeS.label ⟨L, F, hL, hn, hM, h⟩
  | exit id => intro _ K L F t A hL hn hM h; exact CodeS.exit ⟨L, F, hL, hn, hM, h⟩
  | ret => intro _ K L F t A hL hn hM h; exact CodeS.ret ⟨L, F, hL, hn, hM, h⟩
  | region id ops draw => intro _ K L F t A hL hn hM h; exact region_true G hR hL hn hM h
  | scope b ih => intro hr K L F t A hL hn hM h; exact CodeS.scope (ih hr hL hn hM h)
  | seq a b iha ihb =>
    intro hr K L F t A hL hn hM h
    obtain ⟨ra, rb⟩ := nr2 (show _ ∨ (noRange a && noRange b) = true from hr)
    have h1 : runC fuel rec (compC w0.gl P n a) L F (fun e M F => AE.rec (motive := fun _ => R) (pass (runC fuel rec (compC w0.gl P n b) M F K)) (fun i => K (.exit i) M F) (K .ret M F) e) = true := h
    refine CodeS.seq (CodeS_mono (iha ra hL hn hM h1) ?_)
    rintro e t1 A1 ⟨S, F1, g1, g2, g3, g4⟩
    cases e with
    | normal => exact ihb rb g1 g2 g3 g4
    | exit id => exact ⟨S, F1, g1, g2, g3, g4⟩
    | ret => exact ⟨S, F1, g1, g2, g3, g4⟩
  | cond x a b iha ihb =>
    intro hr K L F t A hL hn hM h
    obtain ⟨ra, rb⟩ := nr2 (show _ ∨ (noRange a && noRange b) = true from hr)
    unfold compC at h
    cases hx : accOf w0.gl n x with
    | none => rw [hx] at h; exact not_bad h
    | some y =>
      rw [hx] at h
      have h1 : boolK (y L) (fun q => ifK q (runC fuel rec (compC w0.gl P n a) L F K) (runC fuel rec (compC w0.gl P n b) L F K)) = true := h
      obtain ⟨q, h2, h3⟩ := boolK_true h1
      have hv := accOf_ok hx L t hL hn
      rw [h2] at hv
      obtain ⟨o1, o2⟩ := accOf_okX hx
      refine CodeS.cond o1 o2 (q := q) hv.symm ?_
      cases q with
      | true => exact iha ra hL hn hM h3
      | false => exact ihb rb hL hn hM h3
  | block id b ih =>
    intro hr K L F t A hL hn hM h
    have h1 : runC fuel rec (compC w0.gl P n b) L F (fun e M F => AE.rec (motive := fun _ => R) (K .normal M F) (fun i => ifK (Nat.beq i id) (K .normal M F) (K (.exit i) M F)) (K .ret M F) e) = true := h
    refine CodeS.block (CodeS_mono (ih hr hL hn hM h1) ?_)
    rintro e t1 A1 ⟨S, F1, g1, g2, g3, g4⟩
    cases e with
    | normal => exact ⟨S, F1, g1, g2, g3, g4⟩
    | ret => exact ⟨S, F1, g1, g2, g3, g4⟩
    | exit i =>
      dsimp only at g4 ⊢
      cases hq : Nat.beq i id with
      | true => rw [hq] at g4; rw [cond_true]; exact ⟨S, F1, g1, g2, g3, g4⟩
      | false => rw [hq] at g4; rw [cond_false]; exact ⟨S, F1, g1, g2, g3, g4⟩
  | loop b ih =>
    intro hr K L F t A hL hn hM h
    have rounds : ∀ (m : Nat) {L : Sl} {F : FM} {t : Array Value} {A : AW}, SlR L t → n ≤ t.size → MR F A → loopK m (runC fuel rec (compC w0.gl P n b)) L F K = true → RoundS P B w0 b m t A (KC n K) := by
      intro m
      induction m with
      | zero => intro L F t A _ _ _ h; exact not_bad h
      | succ m ihm =>
        intro L F t A hL hn hM h
        have h1 : runC fuel rec (compC w0.gl P n b) L F (fun e M F => AE.rec (motive := fun _ => R) (pass (loopK m (runC fuel rec (compC w0.gl P n b)) M F K)) (fun i => K (.exit i) M F) (K .ret M F) e) = true := h
        refine RoundS.succ (CodeS_mono (ih hr hL hn hM h1) ?_)
        rintro e t1 A1 ⟨S, F1, g1, g2, g3, g4⟩
        cases e with
        | normal => exact ihm g1 g2 g3 g4
        | exit id => exact ⟨S, F1, g1, g2, g3, g4⟩
        | ret => exact ⟨S, F1, g1, g2, g3, g4⟩
    exact CodeS.loop fuel (rounds fuel hL hn hM h)
  | rangeFunc g ps a b _ _ =>
    intro hr K L F t A hL hn hM h
    have hrd : w0.rd = none := by
      rcases hr with hr | hr
      · exact hr
      · cases hr
    unfold compC at h
    cases hx : accOf w0.gl n g with
    | none => rw [hx] at h; exact not_bad h
    | some y => rw [hx] at h; exact range_true G hR hrd hx hL hn hM h
  | _ => intro _ K L F t A hL hn hM h; exact not_bad h
end
end
end Go.Proofs.YtnneooidkbhbeaaGreatDoor.Fast
