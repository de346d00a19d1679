/- A fast evaluator, part N: plans, regions, code, calls: what it brings to an end is so in every world. Of no program. -/
import Derived.Test.YtfeppmhcpfccfaaGreatDoorEvP
import Derived.Test.YtfeppmhcpfccfaaGreatDoorEvV
set_option linter.unusedVariables false
set_option linter.unusedSimpArgs false
namespace Go.Proofs.YtfeppmhcpfccfaaGreatDoor.Fast
open Go Go.RowKit Go.Proofs.YtfeppmhcpfccfaaGreatDoor.Sim
noncomputable section
section
variable {P : Program} {B : Nat} {w0 : Base} {n : Nat} {ops : Array Oper}
/-- an operation that is done, whatever it is -/
theorem step_true {i : Nat} {rec : Rc} (hR : RcOk P B w0 rec) {L : Sl} {F : FM} {k : Sl → FM → R} {t : Array Value} {A : AW} (hL : SlR L t) (hn : n ≤ t.size) (hM : MR F A) (h : stepOf w0.gl P n ops i rec L F k = true) : ∃ o, ops[i]? = some o ∧
    (bif Region.wanted o (yielded ops t) then (bif loudB o then stepW P B w0 t o A fun v A' => KK n k (putA t o.dst v) A' else quietW P w0.gl t o A fun v A' => KK n k (putA t o.dst v) A') else KK n k (putA t o.dst undef) A) := by
  obtain ⟨o, ho, hd, h5, hk, hgl, hgh, hp⟩ := stepOf_true h
  refine ⟨o, ho, ?_⟩
  obtain ⟨k', h1, h2⟩ := putS_true hL hn hd h5 hp
  rcases guardOf_true hL hn h1 with ⟨hw, h3⟩ | ⟨hw, h3⟩
  · rw [hw, cond_true]
    cases hl : loudB o with
    | true => exact loud_step hl hk hgl hR hL hn hM h3 h2
    | false => exact quiet_step hl hd hk hgl hgh hL hn hM h3 h2
  · rw [hw, cond_false]
    exact h2 _ _ ⟨u0, F, rfl, hM, h3⟩
theorem runS_cons {f : RS} {l : List Stp} {rec : Rc} {L : Sl} {F : FM} {k : Sl → FM → R} (h : runS (.mk f :: l) rec L F k = true) : f rec L F (fun L F => pass (runS l rec L F k)) = true := h
/-- a region in the text's order -/
theorem ops_true {rec : Rc} (hR : RcOk P B w0 rec) {k : Sl → FM → R} : ∀ (l : List Nat) {L : Sl} {F : FM} {t : Array Value} {A : AW}, SlR L t → n ≤ t.size → MR F A → runS (l.map fun i => .mk (stepC w0.gl P n ops i)) rec L F k = true → opsW P B w0 ops (KK n k) l t A
  | [], L, F, t, A, hL, hn, hM, h => ⟨L, F, hL, hn, hM, h⟩
  | i :: l, L, F, t, A, hL, hn, hM, h => by
    have h0 := runS_cons h
    have next : ∀ t A, KK n (fun L F => pass (runS (l.map fun i => .mk (stepC w0.gl P n ops i)) rec L F k)) t A → opsW P B w0 ops (KK n k) l t A := by
      rintro t A ⟨S, F, g1, g2, g3, g4⟩
      exact ops_true hR l g1 g2 g3 g4
    unfold opsW
    unfold stepC at h0
    cases ho : ops[i]? with
    | none => rw [ho] at h0; exact not_bad h0
    | some o =>
      rw [ho] at h0
      dsimp only at h0 ⊢
      cases hcm : commB o with
      | true =>
        rw [hcm, cond_true] at h0
        cases hq : (dstB n o.dst && Nat.ble n 512 && okOp o && glOp w0.gl o) with
        | false => rw [hq] at h0; exact not_bad h0
        | true =>
          rw [hq, cond_true] at h0
          simp only [Bool.and_eq_true] at hq
          obtain ⟨⟨⟨hd, h5⟩, hk⟩, hgl⟩ := hq
          obtain ⟨k', h1, h2⟩ := putS_true hL hn hd (Nat.le_of_ble_eq_true h5) h0
          rcases guardOf_true hL hn h1 with ⟨hw, h3⟩ | ⟨hw, h3⟩
          · rw [hw, cond_true]
            obtain ⟨v, A', g1, g2⟩ := commD_ok hL hn hM h3
            exact ⟨hgl, hk, v, A', g1, next _ _ (h2 v A' g2)⟩
          · rw [hw, cond_false]
            exact next _ _ (h2 _ _ ⟨u0, F, rfl, hM, h3⟩)
      | false =>
        rw [hcm, cond_false] at h0
        obtain ⟨o2, ho2, h1⟩ := step_true hR hL hn hM h0
        rw [ho] at ho2; injection ho2 with ho2; subst ho2
        cases hw : Region.wanted o (yielded ops t) with
        | false => rw [hw, cond_false] at h1; rw [cond_false]; exact next _ _ h1
        | true =>
          rw [hw, cond_true] at h1
          rw [cond_true, cond_false]
          cases hl : loudB o with
          | true =>
            rw [hl, cond_true] at h1
            rw [cond_true]
            exact stepW_mono h1 fun v A' hv => next _ _ hv
          | false =>
            rw [hl, cond_false] at h1
            rw [cond_false]
            exact quietW_mono h1 fun v A' hv => next _ _ hv
theorem apartK_true {x y : SV} {m1 m2 : Nat} {k : R} (h : apartK x y m1 m2 k = true) : ∃ b1 o1 b2 o2, x = .val (.ptr b1 o1) ∧ y = .val (.ptr b2 o2) ∧ b1 < 262144 ∧ b2 < 262144 ∧ 0 < m1 ∧ 0 < m2 ∧ (b1 ≠ b2 ∨ o1 + m1 ≤ o2 ∨ o2 + m2 ≤ o1) ∧ k = true := by
  obtain ⟨b1, o1, h1, h⟩ := ptrK_true h
  obtain ⟨b2, o2, h2, h⟩ := ptrK_true h
  obtain ⟨h3, h4⟩ := ifK_true h
  rw [Bool.and_eq_true, Bool.and_eq_true, Bool.and_eq_true, Bool.and_eq_true, Bool.or_eq_true, Bool.or_eq_true, Bool.not_eq_true'] at h3
  obtain ⟨⟨⟨⟨q1, q2⟩, q3⟩, q4⟩, q5⟩ := h3
  refine ⟨b1, o1, b2, o2, h1, h2, blt_lt q1, blt_lt q2, blt_lt q3, blt_lt q4, ?_, h4⟩
  rcases q5 with (q5 | q5) | q5
  · exact .inl fun e => by rw [e, Nat.beq_refl] at q5; cases q5
  · exact .inr (.inl (Nat.le_of_ble_eq_true q5))
  · exact .inr (.inr (Nat.le_of_ble_eq_true q5))
theorem bothK_true {x y : R} (h : bothK x y = true) : x = true ∧ y = true := by cases x <;> first | exact ⟨rfl, h⟩ | exact not_bad h
/-- one store of a pair -/
theorem store_true {i : Nat} {rec : Rc} (hR : RcOk P B w0 rec) {L : Sl} {F : FM} {k : Sl → FM → R} {t : Array Value} {A : AW} (hL : SlR L t) (hn : n ≤ t.size) (hM : MR F A) {o : Oper} (ho : ops[i]? = some o) {s : TypeId} {x y : Operand} (hop : o.op = .store s x y) (hg : o.guard.isNone = true) (hd : o.dst.isNone = true) {b of : Nat} (hb : b < 262144) (hx : ev t x = .pointer (some ⟨b, of, none⟩)) (hpos : 0 < sizeB P s)
    (h : stepOf w0.gl P n ops i rec L F k = true) : ∃ A', glOp w0.gl o = true ∧ opA P (ev t) o A = some (.skip, A') ∧ KK n k t A' ∧ (ev t y).cells.toList.length = sizeB P s ∧ Upd A A' b of (ev t y).cells.toList := by
  obtain ⟨o', ho', h1⟩ := step_true hR hL hn hM h
  rw [ho] at ho'; injection ho' with ho'; subst ho'
  have hl : loudB o = true := by unfold loudB; rw [hop]
  rw [wanted_none hg, cond_true, hl, cond_true] at h1
  obtain ⟨A', q1, q2, q3, q4⟩ := stepW_store hop hb hx hpos h1
  rw [putA_none hd] at q2
  exact ⟨A', h1.1, q1, q2, q3, q4⟩
/-- one entry of a pair -/
theorem entry_true {i : Nat} {rec : Rc} (hR : RcOk P B w0 rec) {L : Sl} {F : FM} {k : Sl → FM → R} {t : Array Value} {A : AW} (hL : SlR L t) (hn : n ≤ t.size) (hM : MR F A) {o : Oper} (ho : ops[i]? = some o) {mt : TypeId} {x y z : Operand} (hop : o.op = .entryStore mt x y z) (hg : o.guard.isNone = true) (hd : o.dst.isNone = true) {b : Nat} (hb : b < 262144) (hx : ev t x = .map (some b))
    (h : stepOf w0.gl P n ops i rec L F k = true) : ∃ A' kd born, ev t y = .int kd born ∧ glOp w0.gl o = true ∧ opA P (ev t) o A = some (.skip, A') ∧ KK n k t A' ∧ EUpd A A' b born (ev t z) := by
  obtain ⟨o', ho', h1⟩ := step_true hR hL hn hM h
  rw [ho] at ho'; injection ho' with ho'; subst ho'
  have hl : loudB o = true := by unfold loudB; rw [hop]
  rw [wanted_none hg, cond_true, hl, cond_true] at h1
  obtain ⟨A', kd, born, q0, q1, q2, q3⟩ := stepW_entry hop hb hx h1
  rw [putA_none hd] at q2
  exact ⟨A', kd, born, q0, h1.1, q1, q2, q3⟩
theorem apartE_true {x y : SV} {m2 : Nat} {k : R} (h : apartE x y m2 k = true) : ∃ b1 b2 o2, x = .val (.map b1) ∧ y = .val (.ptr b2 o2) ∧ b1 < 262144 ∧ b2 < 262144 ∧ 0 < m2 ∧ k = true := by
  rcases mpK_true h with ⟨_, h⟩ | ⟨b1, h1, h⟩
  · exact not_bad h
  obtain ⟨b2, o2, h2, h⟩ := ptrK_true h
  obtain ⟨h3, h4⟩ := ifK_true h
  rw [Bool.and_eq_true, Bool.and_eq_true] at h3
  exact ⟨b1, b2, o2, h1, h2, blt_lt h3.1.1, blt_lt h3.1.2, blt_lt h3.2, h4⟩
theorem loudW_of {i : Nat} {re : List Nat} {K : Array Value → AW → Prop} {t : Array Value} {A A' : AW} {o : Oper} (ho : ops[i]? = some o) (hg : o.guard.isNone = true) (hd : o.dst.isNone = true) (hgl : glOp w0.gl o = true) (hop : opA P (ev t) o A = some (.skip, A')) (h1 : againP P ops t A' re) (h2 : K t A') : loudW P B w0 ops i re K t A := by
  unfold loudW
  rw [ho]
  dsimp only
  rw [wanted_none hg, cond_true]
  refine ⟨hgl, ?_⟩
  rw [hop]
  dsimp only
  rw [putA_none hd]
  exact ⟨h1, h2⟩
theorem pair_true {i j : Nat} {ri rj : List Nat} {rec : Rc} (hR : RcOk P B w0 rec) {L : Sl} {F : FM} {k : Sl → FM → R} {t : Array Value} {A : AW} (hL : SlR L t) (hn : n ≤ t.size) (hM : MR F A) (h : pairOf w0.gl P n ops i j ri rj rec L F k = true) {K : Array Value → AW → Prop} (hK : ∀ t A, KK n k t A → K t A) :
    loudW P B w0 ops i ri (loudW P B w0 ops j rj K) t A ∧ loudW P B w0 ops j rj (loudW P B w0 ops i ri K) t A := by
  generalize hf : pairOf w0.gl P n ops i j ri rj = f at h
  unfold pairOf at hf
  split at hf
  rotate_left
  · subst hf; exact not_bad h
  rename_i o1 o2 ho1 ho2
  split at hf
  rotate_left
  · subst hf; exact not_bad h
  rename_i ck hck
  subst hf
  cases hq : (o1.guard.isNone && o2.guard.isNone && o1.dst.isNone && o2.dst.isNone) with
  | false => rw [hq] at h; exact not_bad h
  | true =>
    rw [hq, cond_true] at h
    rw [Bool.and_eq_true, Bool.and_eq_true, Bool.and_eq_true] at hq
    obtain ⟨⟨⟨g1, g2⟩, d1⟩, d2⟩ := hq
    unfold pairChk at hck
    split at hck
    · rename_i s1 x1 y1 s2 x2 y2 hp1 hp2
      split at hck
      rotate_left
      · cases hck
      rename_i a1 a2 ha1 ha2
      injection hck with hck
      subst hck
      obtain ⟨b1, f1, b2, f2, e1, e2, l1, l2, p1, p2, ap, hb⟩ := apartK_true h
      obtain ⟨hji, hij⟩ := bothK_true hb
      have v1 : ev t x1 = .pointer (some ⟨b1, f1, none⟩) := (accOf_ok ha1 L t hL hn).symm.trans (by rw [e1]; rfl)
      have v2 : ev t x2 = .pointer (some ⟨b2, f2, none⟩) := (accOf_ok ha2 L t hL hn).symm.trans (by rw [e2]; rfl)
      -- the one order
      obtain ⟨A1, gl1, op1, ⟨L1, F1, sl1, n1, m1, c1⟩, len1, u1⟩ := store_true hR hL hn hM ho1 hp1 g1 d1 l1 v1 p1 hij
      obtain ⟨ag1, L2, F2, sl2, n2, m2, c2⟩ := againOf_true ri sl1 n1 m1 c1
      obtain ⟨A12, gl2, op2, ⟨L3, F3, sl3, n3, m3, c3⟩, len2, u2⟩ := store_true hR sl2 n2 m2 ho2 hp2 g2 d2 l2 v2 p2 c2
      obtain ⟨ag2, L4, F4, sl4, n4, m4, c4⟩ := againOf_true rj sl3 n3 m3 c3
      -- the other
      obtain ⟨A2, _, op3, ⟨L5, F5, sl5, n5, m5, c5⟩, _, u3⟩ := store_true hR hL hn hM ho2 hp2 g2 d2 l2 v2 p2 hji
      obtain ⟨ag3, L6, F6, sl6, n6, m6, c6⟩ := againOf_true rj sl5 n5 m5 c5
      obtain ⟨A21, _, op4, ⟨L7, F7, sl7, n7, m7, c7⟩, _, u4⟩ := store_true hR sl6 n6 m6 ho1 hp1 g1 d1 l1 v1 p1 c6
      obtain ⟨ag4, _⟩ := againOf_true ri sl7 n7 m7 c7
      obtain ⟨s1', s2'⟩ := Upd.swap u1 u2 u3 u4 (by rw [len1, len2]; exact ap)
      refine ⟨loudW_of ho1 g1 d1 gl1 op1 ag1 (loudW_of ho2 g2 d2 gl2 op2 ag2 (hK t A12 ⟨L4, F4, sl4, n4, m4, c4⟩)), loudW_of ho2 g2 d2 gl2 op3 ag3 (loudW_of ho1 g1 d1 gl1 op4 ag4 (hK t A21 ⟨L4, F4, sl4, n4, m4.ext s1' s2', c4⟩))⟩
    · rename_i mt x1 y1 z1 s2 x2 y2 hp1 hp2
      split at hck
      rotate_left
      · cases hck
      rename_i a1 a2 ha1 ha2
      injection hck with hck
      subst hck
      obtain ⟨b1, b2, f2, e1, e2, l1, l2, p2, hb⟩ := apartE_true h
      obtain ⟨hji, hij⟩ := bothK_true hb
      have v1 : ev t x1 = .map (some b1) := (accOf_ok ha1 L t hL hn).symm.trans (by rw [e1]; rfl)
      have v2 : ev t x2 = .pointer (some ⟨b2, f2, none⟩) := (accOf_ok ha2 L t hL hn).symm.trans (by rw [e2]; rfl)
      obtain ⟨A1, kd, born, q0, gl1, op1, ⟨L1, F1, sl1, n1, m1, c1⟩, u1⟩ := entry_true hR hL hn hM ho1 hp1 g1 d1 l1 v1 hij
      obtain ⟨ag1, L2, F2, sl2, n2, m2, c2⟩ := againOf_true ri sl1 n1 m1 c1
      obtain ⟨A12, gl2, op2, ⟨L3, F3, sl3, n3, m3, c3⟩, len2, u2⟩ := store_true hR sl2 n2 m2 ho2 hp2 g2 d2 l2 v2 p2 c2
      obtain ⟨ag2, L4, F4, sl4, n4, m4, c4⟩ := againOf_true rj sl3 n3 m3 c3
      obtain ⟨A2, _, op3, ⟨L5, F5, sl5, n5, m5, c5⟩, _, u3⟩ := store_true hR hL hn hM ho2 hp2 g2 d2 l2 v2 p2 hji
      obtain ⟨ag3, L6, F6, sl6, n6, m6, c6⟩ := againOf_true rj sl5 n5 m5 c5
      obtain ⟨A21, kd', born', q0', _, op4, ⟨L7, F7, sl7, n7, m7, c7⟩, u4⟩ := entry_true hR sl6 n6 m6 ho1 hp1 g1 d1 l1 v1 c6
      obtain ⟨ag4, _⟩ := againOf_true ri sl7 n7 m7 c7
      rw [q0] at q0'
      injection q0' with _ q0'
      subst q0'
      obtain ⟨s1', s2'⟩ := EUpd.swap u1 u2 u3 u4
      refine ⟨loudW_of ho1 g1 d1 gl1 op1 ag1 (loudW_of ho2 g2 d2 gl2 op2 ag2 (hK t A12 ⟨L4, F4, sl4, n4, m4, c4⟩)), loudW_of ho2 g2 d2 gl2 op3 ag3 (loudW_of ho1 g1 d1 gl1 op4 ag4 (hK t A21 ⟨L4, F4, sl4, n4, m4.ext s1' s2', c4⟩))⟩
    · cases hck
/-- an assignment as a loud operation -/
theorem asg_step {t : Array Value} {o : Oper} {A : AW} {K : Value → AW → Prop} (ho : asgB o = true) (h : quietW P w0.gl t o A K) : stepW P B w0 t o A K := by
  obtain ⟨dst, op, ty, pos, after, guard⟩ := o
  cases op with
  | assign x =>
    obtain ⟨hg, h⟩ := h
    refine ⟨hg, ?_⟩
    cases hk : okOp ⟨dst, .assign x, ty, pos, after, guard⟩ with
    | false =>
      unfold quietA at h
      rw [hk] at h
      exact h.elim
    | true =>
      have hq : quietA P (ev t) A ⟨dst, .assign x, ty, pos, after, guard⟩ = some (.val (ev t x)) := quiet_pure hk rfl rfl
      rw [hq] at h
      have hop : opA P (ev t) ⟨dst, .assign x, ty, pos, after, guard⟩ A = some (.val (ev t x), A) := by
        unfold opA
        rw [hk]
        rfl
      rw [hop]
      exact h
  | _ => cases ho
/-- .. by its plan -/
theorem plan_true {rec : Rc} (hR : RcOk P B w0 rec) {k : Sl → FM → R} : ∀ (s : List PS) {L : Sl} {F : FM} {t : Array Value} {A : AW}, s.all (kindOk ops) = true → SlR L t → n ≤ t.size → MR F A → runS (planStp w0.gl P n ops s) rec L F k = true → planW P B w0 ops (KK n k) s t A
  | [], L, F, t, A, _, hL, hn, hM, h => ⟨L, F, hL, hn, hM, h⟩
  | x :: s, L, F, t, A, hall, hL, hn, hM, h => by
    rw [List.all_cons, Bool.and_eq_true] at hall
    obtain ⟨hx, hs⟩ := hall
    have next : ∀ t A, KK n (fun L F => pass (runS (planStp w0.gl P n ops s) rec L F k)) t A → planW P B w0 ops (KK n k) s t A := by
      rintro t A ⟨S, F, g1, g2, g3, g4⟩
      exact plan_true hR s hs g1 g2 g3 g4
    cases x with
    | quiet i =>
      obtain ⟨o, ho, h1⟩ := step_true hR hL hn hM (runS_cons h)
      have hl : loudB o = false := by unfold kindOk at hx; dsimp only at hx; rw [ho] at hx; simpa using hx
      unfold planW
      rw [ho]
      dsimp only
      cases hw : Region.wanted o (yielded ops t) with
      | false => rw [hw, cond_false] at h1; rw [cond_false]; exact next _ _ h1
      | true =>
        rw [hw, cond_true, hl, cond_false] at h1
        rw [cond_true]
        exact quietW_mono h1 fun v A' hv => next _ _ hv
    | pair i j ri rj => exact pair_true hR hL hn hM (runS_cons h) next
    | loud i re =>
      have fin : ∀ {k2 : Sl → FM → R}, stepOf w0.gl P n ops i rec L F k2 = true → (∀ t A, KK n k2 t A → againP P ops t A re ∧ planW P B w0 ops (KK n k) s t A) → planW P B w0 ops (KK n k) (.loud i re :: s) t A := by
        intro k2 h0 hk2
        obtain ⟨o, ho, h1⟩ := step_true hR hL hn hM h0
        have hl : (loudB o || asgB o) = true := by unfold kindOk at hx; dsimp only at hx; rw [ho] at hx; exact hx
        unfold planW loudW
        rw [ho]
        dsimp only
        cases hw : Region.wanted o (yielded ops t) with
        | false => rw [hw, cond_false] at h1; rw [cond_false]; exact (hk2 _ _ h1).2
        | true =>
          rw [hw, cond_true] at h1
          rw [cond_true]
          cases hlb : loudB o with
          | true =>
            rw [hlb, cond_true] at h1
            exact stepW_mono h1 fun v A' hv => hk2 _ _ hv
          | false =>
            rw [hlb, cond_false] at h1
            rw [hlb, Bool.false_or] at hl
            exact stepW_mono (asg_step hl h1) fun v A' hv => hk2 _ _ hv
      cases re with
      | nil => exact fin (runS_cons h) fun t A hq => ⟨fun j hj => (by cases hj), next t A hq⟩
      | cons r re =>
        have h0 : stepOf w0.gl P n ops i rec L F (fun L F => pass (againOf w0.gl P n ops (r :: re) rec L F (fun L F => pass (runS (planStp w0.gl P n ops s) rec L F k)))) = true := h
        refine fin h0 ?_
        rintro t2 A2 ⟨S, F2, g1, g2, g3, g4⟩
        obtain ⟨f1, f2⟩ := againOf_true (r :: re) g1 g2 g3 g4
        exact ⟨f1, next _ _ f2⟩
theorem RcOk.but {rec : Rc} (h : RcOk P B w0 rec) (Γ : Nat → ABk → Prop) (M : List Nat) : RcOk P B ((w0.but Γ).marked M) rec := h
/-- how things stand behind code -/
def KC (n : Nat) (K : Kc) (e : AE) (t : Array Value) (A : AW) : Prop := ∃ S F, SlR S t ∧ n ≤ t.size ∧ MR F A ∧ K e S F = true
theorem region_true (G : Sim.Good P) {rec : Rc} (hR : RcOk P B w0 rec) {id : Nat} {draw : Bool} {K : Kc} {L : Sl} {F : FM} {t : Array Value} {A : AW} (hL : SlR L t) (hn : n ≤ t.size) (hM : MR F A) (h : runS (regOf w0.gl P n ops draw) rec L F (fun M F => K .normal M F) = true) : CodeS P B w0 (.region id ops draw) t A (KC n K) := by
  unfold regOf at h
  cases draw with
  | false =>
    rw [cond_false] at h
    exact CodeS.region G fun Γ M => ops_true (hR.but Γ M) _ hL hn hM h
  | true =>
    rw [cond_true] at h
    dsimp only at h
    cases hq : (ancOk ops (fun k => (ancL ops.toList []).getD k 0) && okPlan ops (fun k => (ancL ops.toList []).getD k 0) (planOf (oisOf ops ops.toList (ancL ops.toList []) 0) (ops.size + 1) 0) 0 && (planOf (oisOf ops ops.toList (ancL ops.toList []) 0) (ops.size + 1) 0).all (kindOk ops)) with
    | false =>
      rw [hq] at h
      exact not_bad h
    | true =>
      rw [hq, cond_true] at h
      rw [Bool.and_eq_true, Bool.and_eq_true] at hq
      exact CodeS.drawn G hq.1.1 hq.1.2 fun Γ M => plan_true (hR.but Γ M) _ hq.2 hL hn hM h
theorem CallS_mono {f : FuncId} {args : Array Value} {A : AW} {K K' : Value → AW → Prop} (h : CallS P B w0 f args A K) (hK : ∀ v A, K v A → K' v A) : CallS P B w0 f args A K' := by
  intro Γ M ρ w args' g1 g2
  refine (h Γ M ρ w args' g1 g2).mono ?_
  rintro e w' ⟨ρ', v, v', A', e1, e2, e3⟩
  exact ⟨ρ', v, v', A', e1, hK _ _ e2, e3⟩
theorem stOf_busy : ∀ st, stOf st = .busy → st = 1
  | 0, h => nomatch h
  | 1, _ => rfl
  | 2, h => nomatch h
  | _ + 3, h => nomatch h
/-- a range over a function -/
theorem range_true (G : Sim.Good P) {rec : Rc} (hR : RcOk P B w0 rec) (hrd : w0.rd = none) {g : Operand} {y : Acc} (hx : accOf w0.gl n g = some y) {ps : Array Tmp} {a b : Code} {K : Kc} {L : Sl} {F : FM} {t : Array Value} {A : AW} (hL : SlR L t) (hn : n ≤ t.size) (hM : MR F A) (h : rangeK y (hasB P) n ps.toList a b rec L F K = true) : CodeS P B w0 (.rangeFunc g ps a b) t A (KC n K) := by
  unfold rangeK at h
  obtain ⟨gf, fs, cs, h1, h2⟩ := funK_true h
  obtain ⟨h3, h4⟩ := ifK_true h2
  obtain ⟨h5, h6⟩ := ifK_true h4
  obtain ⟨h7, h8⟩ := newF_true h6
  have hfs : fs = [] := by
    cases fs with
    | nil => rfl
    | cons => cases h3
  subst hfs
  rw [w512_put (by decide)] at h8
  obtain ⟨f', h9, q1, r1⟩ := argsL_ok _ _ _ _ h8
  obtain ⟨o1, o2⟩ := accOf_okX hx
  have hv : ev t g = .func (.func gf) #[] ⟨cs⟩ := (accOf_ok hx L t hL hn).symm.trans (by rw [h1]; rfl)
  obtain ⟨fn, k1, k2⟩ := hasB_spec h5
  rw [← hM.next] at h9 q1
  have hl : Laid (.func (.yield A.next) #[] #[] :: cs) 0 slots0 f' := Laid.cons (by decide) rfl q1
  have hM1 : MR ⟨Lh.set F.next (.loop L n ps.toList a b 0 .normal) F.heap, F.next + 1⟩ (A.add ⟨.loop { state := .ready, pending := none, fn := 0, tmps := t, params := ps, assign := a, body := b, defers := 0 }, false, false⟩) := hM.add h7 (.loop (st := 0) (pend := .normal) hL hn)
  rw [← hM.next] at hM1
  have hlen : (Value.func (.yield A.next) #[] #[] :: cs).length ≤ 512 := by
    rw [List.length_cons]
    rcases r1 with r | r
    · rw [r]; decide
    · omega
  refine CodeS.range G hrd o1 o2 hv k1 k2 (hM.room h7) ?_
  refine CallS_mono (hR.2.1 gf f' _ _ (#[.func (.yield A.next) #[] #[]] ++ ⟨cs⟩) _ (hasB_lt h5) (hl.arg hlen (by simp)) hM1 h9) ?_
  rintro v A1 ⟨sv, F1, p1, p2, p3⟩
  obtain ⟨hb, L2, n2, ps2, a2, b2, st, pend, s1, s2⟩ := lpK_true p3
  obtain ⟨s3, s4⟩ := ifK_true s2
  obtain ⟨tmps, s5, s6, s7⟩ := p2.loop hb s1
  have s8 := putF_true hb s4
  have hM2 := p2.putA hb (BlkR.loop (ps := ps2) (a := a2) (b := b2) (st := 3) (pend := pend) s6 s7)
  have hst : stOf st ≠ .busy := by
    intro e
    obtain rfl := stOf_busy st e
    cases s3
  refine ⟨_, s5, hst, ?_⟩
  cases pend with
  | normal => exact ⟨L, _, hL, hn, hM2, s8⟩
  | ret => exact ⟨L, _, hL, hn, hM2, s8⟩
  | exit id => exact ⟨L, _, hL, hn, hM2, s8⟩
theorem nr2 {p : Prop} {a b : Bool} (h : p ∨ (a && b) = true) : (p ∨ a = true) ∧ (p ∨ b = true) := by
  rcases h with h | h
  · exact ⟨.inl h, .inl h⟩
  · rw [Bool.and_eq_true] at h
    exact ⟨.inr h.1, .inr h.2⟩
theorem code_true (G : Sim.Good P) (fuel : Nat) {rec : Rc} (hR : RcOk P B w0 rec) : ∀ (c : Code), (w0.rd = none ∨ noRange c = true) → ∀ {K : Kc} {L : Sl} {F : FM} {t : Array Value} {A : AW}, SlR L t → n ≤ t.size → MR F A → runC fuel rec (compC w0.gl P n c) L F K = true → CodeS P B w0 c t A (KC n K) := by
  intro c
  induction c with
  | skip => intro _ K L F t A hL hn hM h; exact CodeS.skip ⟨L, F, hL, hn, hM, h⟩
  | label l => intro _ K L F t A hL hn hM h; exact CodeS.label ⟨L, F, hL, hn, hM, h⟩
  | exit id => intro _ K L F t A hL hn hM h; exact CodeS.exit ⟨L, F, hL, hn, hM, h⟩
  | ret => intro _ K L F t A hL hn hM h; exact CodeS.ret ⟨L, F, hL, hn, hM, h⟩
  | region id ops draw => intro _ K L F t A hL hn hM h; exact region_true G hR hL hn hM h
  | scope b ih => intro hr K L F t A hL hn hM h; exact CodeS.scope (ih hr hL hn hM h)
  | seq a b iha ihb =>
    intro hr K L F t A hL hn hM h
    obtain ⟨ra, rb⟩ := nr2 (show _ ∨ (noRange a && noRange b) = true from hr)
    have h1 : runC fuel rec (compC w0.gl P n a) L F (fun e M F => AE.rec (motive := fun _ => R) (pass (runC fuel rec (compC w0.gl P n b) M F K)) (fun i => K (.exit i) M F) (K .ret M F) e) = true := h
    refine CodeS.seq (CodeS_mono (iha ra hL hn hM h1) ?_)
    rintro e t1 A1 ⟨S, F1, g1, g2, g3, g4⟩
    cases e with
    | normal => exact ihb rb g1 g2 g3 g4
    | exit id => exact ⟨S, F1, g1, g2, g3, g4⟩
    | ret => exact ⟨S, F1, g1, g2, g3, g4⟩
  | cond x a b iha ihb =>
    intro hr K L F t A hL hn hM h
    obtain ⟨ra, rb⟩ := nr2 (show _ ∨ (noRange a && noRange b) = true from hr)
    unfold compC at h
    cases hx : accOf w0.gl n x with
    | none => rw [hx] at h; exact not_bad h
    | some y =>
      rw [hx] at h
      have h1 : boolK (y L) (fun q => ifK q (runC fuel rec (compC w0.gl P n a) L F K) (runC fuel rec (compC w0.gl P n b) L F K)) = true := h
      obtain ⟨q, h2, h3⟩ := boolK_true h1
      have hv := accOf_ok hx L t hL hn
      rw [h2] at hv
      obtain ⟨o1, o2⟩ := accOf_okX hx
      refine CodeS.cond o1 o2 (q := q) hv.symm ?_
      cases q with
      | true => exact iha ra hL hn hM h3
      | false => exact ihb rb hL hn hM h3
  | block id b ih =>
    intro hr K L F t A hL hn hM h
    have h1 : runC fuel rec (compC w0.gl P n b) L F (fun e M F => AE.rec (motive := fun _ => R) (K .normal M F) (fun i => ifK (Nat.beq i id) (K .normal M F) (K (.exit i) M F)) (K .ret M F) e) = true := h
    refine CodeS.block (CodeS_mono (ih hr hL hn hM h1) ?_)
    rintro e t1 A1 ⟨S, F1, g1, g2, g3, g4⟩
    cases e with
    | normal => exact ⟨S, F1, g1, g2, g3, g4⟩
    | ret => exact ⟨S, F1, g1, g2, g3, g4⟩
    | exit i =>
      dsimp only at g4 ⊢
      cases hq : Nat.beq i id with
      | true => rw [hq] at g4; rw [cond_true]; exact ⟨S, F1, g1, g2, g3, g4⟩
      | false => rw [hq] at g4; rw [cond_false]; exact ⟨S, F1, g1, g2, g3, g4⟩
  | loop b ih =>
    intro hr K L F t A hL hn hM h
    have rounds : ∀ (m : Nat) {L : Sl} {F : FM} {t : Array Value} {A : AW}, SlR L t → n ≤ t.size → MR F A → loopK m (runC fuel rec (compC w0.gl P n b)) L F K = true → RoundS P B w0 b m t A (KC n K) := by
      intro m
      induction m with
      | zero => intro L F t A _ _ _ h; exact not_bad h
      | succ m ihm =>
        intro L F t A hL hn hM h
        have h1 : runC fuel rec (compC w0.gl P n b) L F (fun e M F => AE.rec (motive := fun _ => R) (pass (loopK m (runC fuel rec (compC w0.gl P n b)) M F K)) (fun i => K (.exit i) M F) (K .ret M F) e) = true := h
        refine RoundS.succ (CodeS_mono (ih hr hL hn hM h1) ?_)
        rintro e t1 A1 ⟨S, F1, g1, g2, g3, g4⟩
        cases e with
        | normal => exact ihm g1 g2 g3 g4
        | exit id => exact ⟨S, F1, g1, g2, g3, g4⟩
        | ret => exact ⟨S, F1, g1, g2, g3, g4⟩
    exact CodeS.loop fuel (rounds fuel hL hn hM h)
  | rangeFunc g ps a b _ _ =>
    intro hr K L F t A hL hn hM h
    have hrd : w0.rd = none := by
      rcases hr with hr | hr
      · exact hr
      · cases hr
    unfold compC at h
    cases hx : accOf w0.gl n g with
    | none => rw [hx] at h; exact not_bad h
    | some y => rw [hx] at h; exact range_true G hR hrd hx hL hn hM h
  | _ => intro _ K L F t A hL hn hM h; exact not_bad h
end
end
end Go.Proofs.YtfeppmhcpfccfaaGreatDoor.Fast
/- A fast evaluator, part O: what a call answers; the whole. Of no program. -/
namespace Go.Proofs.YtfeppmhcpfccfaaGreatDoor.Fast
open Go Go.RowKit Go.Proofs.YtfeppmhcpfccfaaGreatDoor.Sim
noncomputable section
section
variable {P : Program} {B : Nat} {w0 : Base} {n : Nat}
theorem resK_true : ∀ (rs : List ResultVar) (l : List Res) {k : SV → R} {L : Sl} {F : FM} {t : Array Value} {A : AW}, resOf P n rs = some l → SlR L t → n ≤ t.size → MR F A → resK l L F k = true →
    ∃ s : SV, resAll P t A rs = some s.tl ∧ k s = true ∧ ((s = .nil ∧ s.tl = []) ∨ ∃ a b, s = .cons a b ∧ s.tl = a.up :: b.tl ∧ (b = .nil ∨ ∃ c d, b = .cons c d))
  | [], l, k, L, F, t, A, hl, hL, hn, hM, h => by
    injection hl with hl; subst hl
    exact ⟨.nil, rfl, h, .inl ⟨rfl, rfl⟩⟩
  | r :: rs, l, k, L, F, t, A, hl, hL, hn, hM, h => by
    have tail : ∀ (l' : List Res) (v : Value) (a : SV) (K : SV → R), resOf P n rs = some l' → (∀ r : SV, SV.tl (.cons a r) = a.up :: r.tl) → a.up = v → resOne P t A r = some v → resK l' L F (fun r => K (.cons a r)) = true → K = k →
        ∃ s : SV, resAll P t A (r :: rs) = some s.tl ∧ k s = true ∧ ((s = .nil ∧ s.tl = []) ∨ ∃ a b, s = .cons a b ∧ s.tl = a.up :: b.tl ∧ (b = .nil ∨ ∃ c d, b = .cons c d)) := by
      intro l' v a K h1 h2 h3 h4 h5 h6
      subst h6
      obtain ⟨s, g1, g2, g3⟩ := resK_true rs l' h1 hL hn hM h5
      refine ⟨.cons a s, ?_, g2, .inr ⟨a, s, rfl, h2 s, ?_⟩⟩
      · show (match resOne P t A r, resAll P t A rs with | some v, some l => some (v :: l) | _, _ => none) = _
        rw [h4, g1, h2 s, h3]
      · rcases g3 with ⟨rfl, _⟩ | ⟨c, d, rfl, _, _⟩
        · exact .inl rfl
        · exact .inr ⟨c, d, rfl⟩
    cases r with
    | tmp i =>
      unfold resOf at hl
      cases ha : accT n i with
      | none => rw [ha] at hl; cases hl
      | some a =>
        rw [ha] at hl
        cases hr : resOf P n rs with
        | none => rw [hr] at hl; cases hl
        | some l' =>
          rw [hr] at hl
          injection hl with hl; subst hl
          obtain ⟨h1, h2⟩ := hd1_true (show hd1 (a L) (fun v => resK l' L F fun r => k (.cons v r)) = true from h)
          exact tail l' _ (a L) k hr h2 rfl (by show some (t.getD i undef) = _; rw [accT_ok ha L t hL hn]; rfl) h1 rfl
    | cell d ty =>
      unfold resOf at hl
      cases ha : accT n d with
      | none => rw [ha] at hl; cases hl
      | some a =>
        rw [ha] at hl
        have hacc := accT_ok ha L t hL hn
        cases hg : aggB P ty with
        | none => rw [hg] at hl; cases hl
        | some q =>
          rw [hg] at hl
          cases hr : resOf P n rs with
          | none => rw [hr] at hl; cases q <;> cases hl
          | some l' =>
            rw [hr] at hl
            have one : ∀ {hd : Held} {v : Value}, loadL P A ty (ev t (.tmp d)) = some (hd, v) → resOne P t A (.cell d ty) = some v := by
              intro hd v he
              show (match loadL P A ty (t.getD d undef) with | some (_, v) => some v | none => none) = _
              rw [show t.getD d undef = ev t (.tmp d) from rfl, he]
            cases q with
            | true =>
              injection hl with hl; subst hl
              obtain ⟨b, o, h3, h4⟩ := ptrK_true (show ptrK (a L) _ = true from h)
              obtain ⟨hb, rows, m, esz, e, fam, ro, h5, h6⟩ := blkK_true h4
              obtain ⟨c, hc⟩ := hM.at hb h5
              obtain ⟨r, g1, g2, g3⟩ := subK_true hc.h0 hc.h1 hc.h2 h6
              rw [h3] at hacc
              have hcell : cellsA A b o (sizeB P ty) = some (rowL r (sizeB P ty)) := hc.cells g2 (rowL_len _ _) fun p hp => by
                rw [rowL_get, if_pos hp, (g3 p hp).2]
              exact tail l' _ (.row (sizeB P ty) r) k hr (fun r => rfl) rfl (one (by rw [← hacc]; exact load_all hg hcell (aggB_info hg))) g1 rfl
            | false =>
              injection hl with hl; subst hl
              obtain ⟨b, o, h3, h4⟩ := ptrK_true (show ptrK (a L) _ = true from h)
              obtain ⟨hb, rows, m, esz, e, fam, ro, h5, h6⟩ := blkK_true h4
              obtain ⟨c, hc⟩ := hM.at hb h5
              obtain ⟨h7, h8⟩ := inB_true h6
              rw [fvF_eq, wCell_get h7 hc.h0 hc.h1 hc.h2] at h8
              rw [h3] at hacc
              have hcell : cellsA A b o 1 = some [(cellAt rows esz o).up] := hc.cells (by omega) rfl fun p hp => by
                have : p = 0 := by omega
                subst this; rfl
              exact tail l' _ (.val (cellAt rows esz o)) k hr (fun r => rfl) rfl (one (by rw [← hacc]; exact load_one hg hcell)) h8 rfl
theorem decFn_mk {gl : Nat → Bool} {f : FuncId} {code : CD} {res : List Res} (h : decFn gl P f = .mk code res) : ∃ fn c, P.funcs[f]? = some fn ∧ fn.body = some c ∧ resOf P fn.ntmps fn.results.toList = some res ∧ fn.ntmps ≤ 512 ∧ code = compC gl P fn.ntmps c := by
  unfold decFn at h
  cases hf : P.funcs[f]? with
  | none => rw [hf] at h; cases h
  | some fn =>
    rw [hf] at h
    dsimp only at h
    cases hb : fn.body with
    | none => rw [hb] at h; cases h
    | some c =>
      rw [hb] at h
      dsimp only at h
      cases hr : resOf P fn.ntmps fn.results.toList with
      | none => rw [hr] at h; cases h
      | some r =>
        rw [hr] at h
        dsimp only at h
        cases hq : Nat.ble fn.ntmps 512 with
        | false => rw [hq] at h; cases h
        | true =>
          rw [hq, cond_true] at h
          cases hdf : defersB gl c with
          | true => rw [hdf] at h; cases h
          | false =>
            rw [hdf, cond_false] at h
            injection h with h1 h2
            exact ⟨fn, c, rfl, hb, by rw [hr, h2], Nat.le_of_ble_eq_true hq, h1.symm⟩
theorem decFn_dfr {gl : Nat → Bool} {f : FuncId} {code : CE} {res : List Res} (h : decFn gl P f = .dfr code res) : ∃ fn c, P.funcs[f]? = some fn ∧ fn.body = some c ∧ resOf P fn.ntmps fn.results.toList = some res ∧ fn.ntmps ≤ 512 ∧ code = compE gl P fn.ntmps c := by
  unfold decFn at h
  cases hf : P.funcs[f]? with
  | none => rw [hf] at h; cases h
  | some fn =>
    rw [hf] at h
    dsimp only at h
    cases hb : fn.body with
    | none => rw [hb] at h; cases h
    | some c =>
      rw [hb] at h
      dsimp only at h
      cases hr : resOf P fn.ntmps fn.results.toList with
      | none => rw [hr] at h; cases h
      | some r =>
        rw [hr] at h
        dsimp only at h
        cases hq : Nat.ble fn.ntmps 512 with
        | false => rw [hq] at h; cases h
        | true =>
          rw [hq, cond_true] at h
          cases hdf : defersB gl c with
          | false => rw [hdf] at h; cases h
          | true =>
            rw [hdf, cond_true] at h
            injection h with h1 h2
            exact ⟨fn, c, rfl, hb, by rw [hr, h2], Nat.le_of_ble_eq_true hq, h1.symm⟩
/-- where yield's arguments go -/
def setPL (l : List (Nat × Value)) (t : Array Value) : Array Value := l.foldl (fun t q => t.setIfInBounds q.1 q.2) t
theorem setPs_true (h5 : n ≤ 512) {S : Sl} {args : Array Value} (hS : ArgR S args) : ∀ (ps : List Nat) (j : Nat) {L : Sl} {t : Array Value} {k : Sl → R}, SlR L t → n ≤ t.size → j + ps.length = args.size → setPs n S ps j L k = true →
    ∃ L', SlR L' (setPL (ps.zip (args.toList.drop j)) t) ∧ n ≤ (setPL (ps.zip (args.toList.drop j)) t).size ∧ k L' = true
  | [], j, L, t, k, hL, hn, _, h => ⟨L, hL, hn, h⟩
  | p :: ps, j, L, t, k, hL, hn, hj, h => by
    have hj : j + (ps.length + 1) = args.size := hj
    have h : ifK (Nat.blt p n) (ifK (Nat.blt j 512) (svF ((w512 SV j).get S) fun v => (w512 SV p).put v L fun L => num (Nat.succ j) fun j => setPs n S ps j L k) bad) bad = true := h
    obtain ⟨q1, h1⟩ := ifK_true h
    obtain ⟨q2, h2⟩ := ifK_true h1
    have hp := blt_lt q1
    have hlt : j < args.size := by omega
    rw [svF_eq, w512_get (blt_lt q2), w512_put (by omega), num_eq] at h2
    have hg := hS.get j hlt
    obtain ⟨L', g1, g2, g3⟩ := setPs_true h5 hS ps (j + 1) (hL.put (d := p) (by omega) (v := SV.up (Ls.get j S)) rfl) (by rw [Array.size_setIfInBounds]; exact hn) (by omega) h2
    have hdrop : args.toList.drop j = SV.up (Ls.get j S) :: args.toList.drop (j + 1) := by
      rw [List.drop_eq_getElem_cons (by rw [Array.length_toList]; exact hlt)]
      congr 1
      rw [Array.getElem?_eq_getElem hlt] at hg
      injection hg with hg
    rw [hdrop]
    exact ⟨L', g1, g2, g3⟩
theorem setPL_eq (ps args t : Array _) : setPL (ps.toList.zip (args.toList.drop 0)) t = (ps.zip args).foldl (fun tmps (p, a) => tmps.setIfInBounds p a) t := by
  rw [List.drop_zero, ← Array.toList_zip, ← Array.foldl_toList]
  rfl
/-- a round that the evaluator brings to its end -/
theorem round_true (G : Sim.Good P) {fuel : Nat} {rec : Rc} (hR : ∀ l, RcOk P B (w0.at (some l)) rec) {b : Nat} {S : Sl} {F : FM} {A : AW} {args : Array Value} {k : SV → FM → R} {lp : Loop} (hS : ArgR S args) (hM : MR F A) (hA : A.heap.get b = some ⟨.loop lp, false, false⟩) (hsz : args.size = lp.params.size) (h : roundC (compC w0.gl P) (runC fuel rec) b S F k = true) :
    RoundW P B w0 b ((lp.params.zip args).foldl (fun tmps (p, a) => tmps.setIfInBounds p a) lp.tmps) lp.assign lp.body A (Post k) := by
  unfold roundC at h
  obtain ⟨hb, L, n, ps, a, bd, st, pend, h1, h2⟩ := lpK_true h
  obtain ⟨h3, h4⟩ := ifK_true h2
  obtain ⟨h5, h6⟩ := ifK_true h4
  obtain ⟨h7, h8⟩ := ifK_true h6
  obtain ⟨h9, h10⟩ := ifK_true h8
  obtain ⟨tmps, m1, m2, m3⟩ := hM.loop hb h1
  rw [m1] at hA
  injection hA with hA
  injection hA with hA
  injection hA with hA
  subst hA
  have hn := Nat.le_of_ble_eq_true h5
  obtain ⟨L1, g1, g2, g3⟩ := setPs_true hn hS ps 0 m2 m3 (by rw [Nat.zero_add]; exact hsz.symm) h10
  have he := setPL_eq (⟨ps⟩ : Array Nat) args tmps
  rw [he] at g1 g2
  refine RoundW.of fun l => CodeS_mono (code_true (w0 := w0.at (some l)) G fuel (hR l) a (.inr h7) g1 g2 hM g3) ?_
  rintro e t1 A1 ⟨S1, F1, r1, r2, r3, r4⟩
  cases e with
  | exit id => exact not_bad r4
  | ret => exact not_bad r4
  | normal =>
    refine ⟨rfl, ?_⟩
    obtain ⟨_, L2, n2, ps2, a2, b2, st2, pend2, s1, s2⟩ := lpK_true r4
    obtain ⟨s3, s4⟩ := ifK_true s2
    obtain ⟨tmps2, s5, s6, s7⟩ := r3.loop hb s1
    have s8 := putF_true hb s4
    obtain rfl := beq_eq s3
    refine ⟨_, s5, rfl, ?_⟩
    have hM2 := r3.putA hb (BlkR.loop (ps := ps2) (a := a2) (b := b2) (st := 1) (pend := pend2) s6 s7)
    refine CodeS_mono (code_true (w0 := w0.at (some l)) G fuel (hR l) bd (.inr h9) r1 r2 hM2 s8) ?_
    rintro e t3 A3 ⟨S3, F3, u1, u2, u3, u4⟩
    obtain ⟨_, L4, n4, ps4, a4, b4, st4, pend4, v1, v2⟩ := lpK_true u4
    obtain ⟨tmps4, v5, v6, v7⟩ := u3.loop hb v1
    refine ⟨_, v5, ?_⟩
    cases e with
    | normal => exact ⟨.val (.bool true), _, rfl, u3.putA hb (BlkR.loop (ps := ps4) (a := a4) (b := b4) (st := 0) (pend := .normal) v6 v7), putF_true hb v2⟩
    | ret => exact ⟨.val (.bool false), _, rfl, u3.putA hb (BlkR.loop (ps := ps4) (a := a4) (b := b4) (st := 2) (pend := .ret) v6 v7), putF_true hb v2⟩
    | exit id => exact ⟨.val (.bool false), _, rfl, u3.putA hb (BlkR.loop (ps := ps4) (a := a4) (b := b4) (st := 2) (pend := .exit id) v6 v7), putF_true hb v2⟩
/-- what a call's results are -/
theorem res_true {fn : Func} {res : List Res} (hr : resOf P fn.ntmps fn.results.toList = some res) {S1 : Sl} {F1 : FM} {t1 : Array Value} {A1 : AW} (g1 : SlR S1 t1) (g2 : fn.ntmps ≤ t1.size) (g3 : MR F1 A1) {k : SV → FM → R} (hq : resK res S1 F1 (fun l => oneRes l fun v => k v F1) = true) : ∃ v, resA P fn t1 A1 = some v ∧ Post k v A1 := by
  obtain ⟨s, q1, q2, q3⟩ := resK_true _ _ hr g1 g2 g3 hq
  unfold resA
  rw [q1]
  rcases q3 with ⟨rfl, q4⟩ | ⟨a, b, rfl, q4, q5⟩
  · exact ⟨_, rfl, .nil, F1, rfl, g3, q2⟩
  · rcases q5 with rfl | ⟨c, d, rfl⟩
    · rw [q4]
      exact ⟨_, rfl, a, F1, rfl, g3, q2⟩
    · have q6 : ∃ x y, SV.tl (.cons c d) = x :: y := by cases c <;> exact ⟨_, _, rfl⟩
      obtain ⟨x, y, q6⟩ := q6
      rw [q4, q6]
      refine ⟨_, rfl, .cons a (.cons c d), F1, ?_, g3, q2⟩
      show Value.tuple ⟨SV.tl (.cons a (.cons c d))⟩ = _
      rw [q4, q6]
theorem argR_slots {S : Sl} {args : Array Value} (hS : ArgR S args) {m : Nat} (h5 : m ≤ 512) : SlR S (args ++ Array.replicate (m - args.size) undef) ∧ m ≤ (args ++ Array.replicate (m - args.size) undef).size := by
  have hsz : (args ++ Array.replicate (m - args.size) undef).size = args.size + (m - args.size) := by simp
  have hargs := hS.size
  refine ⟨⟨by omega, fun d hd => ?_⟩, by omega⟩
  rw [hsz] at hd
  by_cases hq : d < args.size
  · rw [Array.getElem?_append_left hq]; exact hS.get d hq
  · rw [Array.getElem?_append_right (by omega), Array.getElem?_replicate, if_pos (by omega), hS.rest d (by omega) (by omega)]
theorem mk_true (G : Sim.Good P) {fuel : Nat} {rec : Rc} (ih : RcOk P B (w0.at none) rec) {fn : Func} {c : Code} {res : List Res} (hr : resOf P fn.ntmps fn.results.toList = some res) (h5 : fn.ntmps ≤ 512) {S : Sl} {F : FM} {A : AW} {args : Array Value} {k : SV → FM → R} (hS : ArgR S args) (hM : MR F A)
    (h : runC fuel rec (compC w0.gl P fn.ntmps c) S F (endK res k) = true) : CodeS P B (w0.at none) c (args ++ Array.replicate (fn.ntmps - args.size) undef) A fun e t1 A1 => (e = .normal ∨ e = .ret) ∧ ∃ v, resA P fn t1 A1 = some v ∧ Post k v A1 := by
  obtain ⟨hL, hn⟩ := argR_slots hS h5
  refine CodeS_mono (code_true (w0 := w0.at none) G fuel ih c (.inl rfl) hL hn hM h) ?_
  rintro e t1 A1 ⟨S1, F1, g1, g2, g3, g4⟩
  cases e with
  | normal => exact ⟨.inl rfl, res_true hr g1 g2 g3 g4⟩
  | ret => exact ⟨.inr rfl, res_true hr g1 g2 g3 g4⟩
  | exit i => exact not_bad g4
/-- the calls that wait -/
def DRel : List (FuncId × Sl) → List DC → Prop
  | [], [] => True
  | x :: l, d :: D => (x.1 = d.g ∧ x.1 < yB ∧ ArgR x.2 d.args) ∧ DRel l D
  | _, _ => False
theorem DRel.app : ∀ {l l' : List (FuncId × Sl)} {D D' : List DC}, DRel l D → DRel l' D' → DRel (l ++ l') (D ++ D')
  | [], _, [], _, _, h' => h'
  | _ :: _, _, _ :: _, _, h, h' => ⟨h.1, DRel.app h.2 h'⟩
  | [], _, _ :: _, _, h, _ => h.elim
  | _ :: _, _, [], _, h, _ => h.elim
theorem opsW_mono {ops : Array Oper} {K K' : Array Value → AW → Prop} (hK : ∀ t A, K t A → K' t A) : ∀ (l : List Nat) (t : Array Value) (A : AW), opsW P B w0 ops K l t A → opsW P B w0 ops K' l t A
  | [], t, A, h => hK t A h
  | i :: l, t, A, h => by
    unfold opsW at h ⊢
    cases ho : ops[i]? with
    | none => rw [ho] at h; exact opsW_mono hK l t A h
    | some o =>
      rw [ho] at h
      dsimp only at h ⊢
      cases hw : Region.wanted o (yielded ops t) with
      | false => rw [hw, cond_false] at h; rw [cond_false]; exact opsW_mono hK l _ _ h
      | true =>
        rw [hw, cond_true] at h
        rw [cond_true]
        cases hcm : commB o with
        | true =>
          rw [hcm, cond_true] at h
          rw [cond_true]
          obtain ⟨g1, g2, v, A', g3, g4⟩ := h
          exact ⟨g1, g2, v, A', g3, opsW_mono hK l _ _ g4⟩
        | false =>
        rw [hcm, cond_false] at h
        rw [cond_false]
        cases hl : loudB o with
        | true =>
          rw [hl, cond_true] at h
          rw [cond_true]
          exact stepW_mono h fun v A' hv => opsW_mono hK l _ _ hv
        | false =>
          rw [hl, cond_false] at h
          rw [cond_false]
          exact quietW_mono h fun v A' hv => opsW_mono hK l _ _ hv
theorem lastD_spec {gl : Nat → Bool} {ops : Array Oper} {f : Operand} {xs : List Operand} (h : lastD gl ops = some (f, xs)) : ∃ m o args ts, ops.size = m + 1 ∧ ops[m]? = some o ∧ o.op = .defer ⟨.value f, args, ts⟩ ∧ o.guard = none ∧ o.dst = none ∧ okOp o = true ∧ glOp gl o = true ∧ xs = args.toList := by
  unfold lastD at h
  cases ho : ops[ops.size - 1]? with
  | none => rw [ho] at h; cases h
  | some o =>
    rw [ho] at h
    dsimp only at h
    have hlt : ops.size - 1 < ops.size := (Array.getElem?_eq_some_iff.1 ho).1
    split at h
    rotate_left
    · cases h
    rename_i f' args ts hop
    cases hq : (o.guard.isNone && o.dst.isNone && okOp o && glOp gl o) with
    | false => rw [hq] at h; cases h
    | true =>
      rw [hq, cond_true] at h
      injection h with h
      injection h with h1 h2
      subst h1 h2
      simp only [Bool.and_eq_true, Option.isNone_iff_eq_none] at hq
      exact ⟨ops.size - 1, o, args, ts, by omega, ho, hop, hq.1.1.1, hq.1.1.2, hq.1.2, hq.2, rfl⟩
theorem codeE_true (G : Sim.Good P) (fuel : Nat) {rec : Rc} (hR : RcOk P B w0 rec) (hrd : w0.rd = none) : ∀ (c : Code) {K : Ke} {L : Sl} {F : FM} {t : Array Value} {A : AW} {D0 : List (FuncId × Sl)}, SlR L t → n ≤ t.size → MR F A → runE P fuel rec (compE w0.gl P n c) L F D0 K = true →
    CodeD P B w0 c t A fun e t1 A1 D => ∃ S F1 l, SlR S t1 ∧ n ≤ t1.size ∧ MR F1 A1 ∧ DRel l D ∧ K e S F1 (l ++ D0) = true := by
  have plain : ∀ (c : Code) {K : Ke} {L : Sl} {F : FM} {t : Array Value} {A : AW} {D0 : List (FuncId × Sl)}, SlR L t → n ≤ t.size → MR F A → runC fuel rec (compC w0.gl P n c) L F (fun e M F => K e M F D0) = true →
      CodeD P B w0 c t A fun e t1 A1 D => ∃ S F1 l, SlR S t1 ∧ n ≤ t1.size ∧ MR F1 A1 ∧ DRel l D ∧ K e S F1 (l ++ D0) = true := by
    intro c K L F t A D0 hL hn hM h
    refine CodeD.of (CodeS_mono (code_true G fuel hR c (.inl hrd) hL hn hM h) ?_)
    rintro e t1 A1 ⟨S, F1, g1, g2, g3, g4⟩
    exact ⟨S, F1, [], g1, g2, g3, trivial, g4⟩
  intro c
  induction c with
  | seq a b iha ihb =>
    intro K L F t A D0 hL hn hM h
    have h1 : runE P fuel rec (compE w0.gl P n a) L F D0 (fun e M F D => AE.rec (motive := fun _ => R) (pass (runE P fuel rec (compE w0.gl P n b) M F D K)) (fun i => K (.exit i) M F D) (K .ret M F D) e) = true := h
    refine CodeD.seq (CodeD.mono (iha hL hn hM h1) ?_)
    rintro e t1 A1 D ⟨S, F1, l, g1, g2, g3, g4, g5⟩
    cases e with
    | normal =>
      refine CodeD.mono (ihb g1 g2 g3 g5) ?_
      rintro e2 t2 A2 D2 ⟨S2, F2, l2, p1, p2, p3, p4, p5⟩
      exact ⟨S2, F2, l2 ++ l, p1, p2, p3, p4.app g4, by rw [List.append_assoc]; exact p5⟩
    | exit id => exact ⟨S, F1, l, g1, g2, g3, g4, g5⟩
    | ret => exact ⟨S, F1, l, g1, g2, g3, g4, g5⟩
  | region id ops draw =>
    intro K L F t A D0 hL hn hM h
    unfold compE at h
    cases hq : (lastD w0.gl ops).isSome with
    | false => rw [hq, cond_false] at h; exact plain _ hL hn hM h
    | true =>
      rw [hq, cond_true] at h
      cases draw with
      | true => exact not_bad h
      | false =>
        rw [cond_false] at h
        unfold dfrOf at h
        split at h
        rotate_left
        · exact not_bad h
        rename_i f xs hlast
        split at h
        rotate_left
        · exact not_bad h
        rename_i a s ha hs
        obtain ⟨m, o, args, ts, hm, ho, hop, hgd, hdst, hok, hgl, rfl⟩ := lastD_spec hlast
        rw [hm, Nat.add_sub_cancel] at h
        have h1 : runS ((List.range m).map fun i => .mk (stepC w0.gl P n ops i)) rec L F (fun M F => valK (a M) fun v => callV v (fun g fs cs => ifK (hasB P g) (argsL fs 0 slots0 fun i S => s M i S fun i S => argsL cs i S fun _ S => K .normal M F ((g, S) :: D0)) bad) (fun _ => bad)) = true := h
        refine CodeD.defer G hrd hm ho hop hgd hdst hok hgl fun Γ M => opsW_mono ?_ _ _ _ (ops_true (hR.but Γ M) _ hL hn hM h1)
        rintro t1 A1 ⟨S1, F1, g1, g2, g3, g4⟩
        obtain ⟨v, h3, h4⟩ := valK_true g4
        rcases callV_true h4 with ⟨g, fs, cs, rfl, h4⟩ | ⟨b, fs, cs, rfl, h4⟩
        rotate_left
        · exact not_bad h4
        obtain ⟨hb, h5⟩ := ifK_true h4
        obtain ⟨f1, h6, q1, r1⟩ := argsL_ok _ _ _ _ h5
        obtain ⟨f2, h7, q2, r2⟩ := ahOf_ok _ _ hs S1 t1 _ _ _ g1 g2 h6
        obtain ⟨f3, h8, q3, r3⟩ := argsL_ok _ _ _ _ h7
        have e1 : ev t1 f = .func (.func g) ⟨fs⟩ ⟨cs⟩ := (accOf_ok ha S1 t1 g1 g2).symm.trans (by rw [h3]; rfl)
        have hl : Laid (fs ++ args.toList.map (ev t1) ++ cs) 0 slots0 f3 := (q1.trans q2).trans (by rw [List.length_append, List.length_map]; rw [← Nat.add_assoc]; exact q3)
        obtain ⟨fn, k1, k2⟩ := hasB_spec hb
        refine ⟨g, ⟨fs⟩, ⟨cs⟩, fn, e1, k1, k2, S1, F1, [(g, f3)], g1, g2, g3, ⟨⟨rfl, hasB_lt hb, hl.arg ?_ ?_⟩, trivial⟩, h8⟩
        · simp only [List.length_append, List.length_map]
          have b1 : fs.length ≤ 512 := by
            rcases r1 with r | r
            · rw [r]; simp
            · omega
          have b2 : fs.length + args.toList.length ≤ 512 := by
            rcases r2 with r | r
            · rw [r]; simp only [List.length_nil]; omega
            · omega
          rcases r3 with r | r
          · rw [r]; simp only [List.length_nil]; omega
          · omega
        · simp [evs]
  | _ => intro K L F t A D0 hL hn hM h; exact plain _ hL hn hM h
theorem LeaveD_mono {K K' : AW → Prop} (hK : ∀ A, K A → K' A) : ∀ (D : List DC) (A : AW), LeaveD P B w0 D A K → LeaveD P B w0 D A K'
  | [], A, h => hK A h
  | d :: D, A, h => by
    intro Γ M ρ w args' q1 q2
    refine (h Γ M ρ w args' q1 q2).mono ?_
    rintro e u' w' ⟨rfl, ρ', v, v', A', p1, p2, p5⟩
    exact ⟨rfl, ρ', v, v', A', p1, LeaveD_mono hK D A' p2, p5⟩
theorem leaveE_true {rec : Rc} (hR : RcOk P B w0 rec) : ∀ (l : List (FuncId × Sl)) (D : List DC) {F : FM} {A : AW} {k : FM → R}, DRel l D → MR F A → leaveE rec l F k = true → LeaveD P B w0 D A fun A2 => ∃ F2, MR F2 A2 ∧ k F2 = true
  | [], [], F, A, k, _, hM, h => ⟨F, hM, h⟩
  | [], _ :: _, F, A, k, hd, _, _ => hd.elim
  | _ :: _, [], F, A, k, hd, _, _ => hd.elim
  | (g, S) :: l, d :: D, F, A, k, ⟨⟨h1, h2, h3⟩, hr⟩, hM, h => by
    have h : rec (dB + g) S F (fun _ F => leaveE rec l F k) = true := h
    have hc := hR.2.2.2 g S F A d.args _ h2 h3 hM h
    have h1 : g = d.g := h1
    rw [h1] at hc
    intro Γ M ρ w args' q1 q2
    refine (hc Γ M ρ w args' q1 q2).mono ?_
    rintro e u' w' ⟨rfl, ρ', v, v', A', p1, ⟨sv, F', p2, p3, p4⟩, p5⟩
    exact ⟨rfl, ρ', v, v', A', p1, leaveE_true hR l D hr p3 p4, p5⟩
/-- a body, or a round, that the evaluator brings to its end -/
theorem body_ok (G : Sim.Good P) (hBld : BldOk P) (fuel : Nat) {rec : Rc} (w0 : Base) (ih : ∀ r, RcOk P B (w0.at r) rec) : RcOk P B w0 (bodyK w0.gl P fuel rec) := by
  refine ⟨hBld, fun f S F A args k hlt hS hM h => ?_, fun b S F A args k lp hlt hS hM hA hsz h => ?_, fun f S F A args k hlt hS hM h => ?_⟩
  · have h0 : Bool.rec (motive := fun _ => R)
        (FnD.rec (motive := fun _ => R) (fun code res => pass (runC fuel rec code S F (endK res k))) (fun code res => pass (runE P fuel rec code S F [] (endE rec res k))) Fast.bad (decFn w0.gl P f))
        (Bool.rec (motive := fun _ => R) (num (Nat.sub f yB) fun b => pass (roundC (compC w0.gl P) (runC fuel rec) b S F k))
          (num (Nat.sub f dB) fun g => FnD.rec (motive := fun _ => R) (fun code res => pass (runC fuel rec code S F (endK res k))) (fun _ _ => Fast.bad) Fast.bad (decFn w0.gl P g)) (Nat.ble dB f)) (Nat.ble yB f) = true := h
    have hq : Nat.ble yB f = false := by
      cases hq : Nat.ble yB f with
      | false => rfl
      | true => exact absurd (Nat.le_of_ble_eq_true hq) (Nat.not_le.2 hlt)
    rw [hq] at h0
    have h' : FnD.rec (motive := fun _ => R) (fun code res => pass (runC fuel rec code S F (endK res k))) (fun code res => pass (runE P fuel rec code S F [] (endE rec res k))) Fast.bad (decFn w0.gl P f) = true := h0
    cases hd : decFn w0.gl P f with
    | bad =>
      rw [hd] at h'
      exact not_bad h'
    | mk code res =>
      rw [hd] at h'
      obtain ⟨fn, c, hf, hb, hr, h5, rfl⟩ := decFn_mk hd
      exact CallS.of G hf hb (mk_true G (ih none) hr h5 hS hM h')
    | dfr code res =>
      rw [hd] at h'
      obtain ⟨fn, c, hf, hb, hr, h5, rfl⟩ := decFn_dfr hd
      obtain ⟨hL, hn⟩ := argR_slots hS h5
      refine CallS.ofD G hf hb (CodeD.mono (codeE_true (w0 := w0.at none) G fuel (ih none) rfl c hL hn hM h') ?_)
      rintro e t1 A1 D ⟨S1, F1, l, g1, g2, g3, g4, g5⟩
      rw [List.append_nil] at g5
      have fin : leaveE rec l F1 (fun F => resK res S1 F fun l => oneRes l fun v => k v F) = true → LeaveD P B (w0.at none) D A1 fun A2 => ∃ v, resA P fn t1 A2 = some v ∧ Post k v A2 := by
        intro hq
        refine LeaveD_mono ?_ D A1 (leaveE_true (ih none) l D g4 g3 hq)
        rintro A2 ⟨F2, p1, p2⟩
        exact res_true hr g1 g2 p1 p2
      cases e with
      | normal => exact ⟨.inl rfl, fin g5⟩
      | ret => exact ⟨.inr rfl, fin g5⟩
      | exit i => exact not_bad g5
  · generalize hy : yB + b = y at h
    have hle : yB ≤ y := by rw [← hy]; exact Nat.le_add_right yB b
    have hyb : Nat.sub y yB = b := by rw [← hy]; exact Nat.add_sub_cancel_left yB b
    have hnd : Nat.ble dB y = false := by
      cases hq : Nat.ble dB y with
      | false => rfl
      | true =>
        have : 2000000 ≤ y := Nat.le_of_ble_eq_true hq
        have : 1000000 + b = y := hy
        omega
    have h' : Bool.rec (motive := fun _ => R)
        (FnD.rec (motive := fun _ => R) (fun code res => pass (runC fuel rec code S F (endK res k))) (fun code res => pass (runE P fuel rec code S F [] (endE rec res k))) Fast.bad (decFn w0.gl P y))
        (Bool.rec (motive := fun _ => R) (num (Nat.sub y yB) fun b => pass (roundC (compC w0.gl P) (runC fuel rec) b S F k))
          (num (Nat.sub y dB) fun g => FnD.rec (motive := fun _ => R) (fun code res => pass (runC fuel rec code S F (endK res k))) (fun _ _ => Fast.bad) Fast.bad (decFn w0.gl P g)) (Nat.ble dB y)) (Nat.ble yB y) = true := h
    rw [Nat.ble_eq_true_of_le hle, hnd, hyb] at h'
    have h2 : roundC (compC w0.gl P) (runC fuel rec) b S F k = true := h'
    exact round_true G (fun l => ih (some l)) hS hM hA hsz h2
  · generalize hy : dB + f = y at h
    have hle : yB ≤ y := by rw [← hy]; exact Nat.le_trans (by decide) (Nat.le_add_right dB f)
    have hle2 : dB ≤ y := by rw [← hy]; exact Nat.le_add_right dB f
    have hyb : Nat.sub y dB = f := by rw [← hy]; exact Nat.add_sub_cancel_left dB f
    have h' : Bool.rec (motive := fun _ => R)
        (FnD.rec (motive := fun _ => R) (fun code res => pass (runC fuel rec code S F (endK res k))) (fun code res => pass (runE P fuel rec code S F [] (endE rec res k))) Fast.bad (decFn w0.gl P y))
        (Bool.rec (motive := fun _ => R) (num (Nat.sub y yB) fun b => pass (roundC (compC w0.gl P) (runC fuel rec) b S F k))
          (num (Nat.sub y dB) fun g => FnD.rec (motive := fun _ => R) (fun code res => pass (runC fuel rec code S F (endK res k))) (fun _ _ => Fast.bad) Fast.bad (decFn w0.gl P g)) (Nat.ble dB y)) (Nat.ble yB y) = true := h
    rw [Nat.ble_eq_true_of_le hle, Nat.ble_eq_true_of_le hle2, hyb] at h'
    have h2 : FnD.rec (motive := fun _ => R) (fun code res => pass (runC fuel rec code S F (endK res k))) (fun _ _ => Fast.bad) Fast.bad (decFn w0.gl P f) = true := h'
    cases hd : decFn w0.gl P f with
    | bad => rw [hd] at h2; exact not_bad h2
    | dfr code res => rw [hd] at h2; exact not_bad h2
    | mk code res =>
      rw [hd] at h2
      obtain ⟨fn, c, hf, hb, hr, h5, rfl⟩ := decFn_mk hd
      exact CallD.of G hf hb (mk_true G (ih none) hr h5 hS hM h2)
/-- a call that the evaluator brings to its end -/
theorem callK_ok (G : Sim.Good P) (hBld : BldOk P) (fuel : Nat) : ∀ (m : Nat) (w0 : Base), RcOk P B w0 (callK w0.gl P fuel m) := by
  intro m
  induction m with
  | zero => exact fun w0 => ⟨hBld, fun f S F A args k _ _ _ h => not_bad h, fun b S F A args k lp _ _ _ _ _ h => not_bad h, fun f S F A args k _ _ _ h => not_bad h⟩
  | succ m ih => exact fun w0 => body_ok G hBld fuel w0 fun r => ih (w0.at r)
theorem emptyF_ok : MR emptyF ⟨.leaf, 0⟩ := by
  refine ⟨rfl, fun b hb => ?_⟩
  have : Lh.get b heap0 = .no := by
    show (L32768 FO).get (b % 32768) ((L8 (F32768 FO)).get (b / 32768) (r8 (r8 (r8 (r8 (r8 (r8 .no))))))) = _
    rw [r8_get]
    show (L4096 FO).get (b % 32768 % 4096) ((L8 (F4096 FO)).get (b % 32768 / 4096) (r8 (r8 (r8 (r8 (r8 .no)))))) = _
    rw [r8_get]
    show (L512 FO).get (b % 32768 % 4096 % 512) ((L8 (F512 FO)).get (b % 32768 % 4096 / 512) (r8 (r8 (r8 (r8 .no))))) = _
    rw [r8_get]
    exact r8_at _ _ (Nat.mod_lt _ (by decide))
  show BlkR (Lh.get b heap0) _
  rw [this]
  exact .no _
theorem slots0_arg : ArgR slots0 #[] := ⟨by decide, fun d hd => absurd hd (Nat.not_lt_zero d), fun d _ hd => by
  show SV.up ((L512 SV).get d (r8 (r8 (r8 u0)))) = undef
  rw [r8_at _ _ hd]
  rfl⟩
/-- THE WHOLE: what says true from nothing is true in every world -/
theorem says (G : Sim.Good P) (hBld : BldOk P) {fuel m : Nat} {f : FuncId} (hf : Nat.blt f yB = true) (h : saysTrue P fuel m f = true) (w : World) : Calls P f #[] w fun e w' => e = .returned (.bool true) ∧ Below w.heap.size w w' := by
  refine whole (args := #[]) (v := .bool true) ?_ (by simp) rfl
  have := (callK_ok (B := w.heap.size) G hBld fuel m ⟨w, fun _ _ => False, fun _ => false, none, []⟩).2.1 f slots0 emptyF ⟨.leaf, 0⟩ #[] _ (blt_lt hf) slots0_arg emptyF_ok h
  intro Γ M ρ w1 args' h1 h2
  refine (this Γ M ρ w1 args' h1 h2).mono ?_
  rintro e w' ⟨ρ', v, v', A', g1, ⟨sv, F', q1, q2, q3⟩, g3, g4, g5⟩
  refine ⟨ρ', v, v', A', g1, ?_, g3, g4, g5⟩
  obtain ⟨b, rfl, q4⟩ := boolK_true q3
  rw [← q1, q4]
  rfl
end
end
end Go.Proofs.YtfeppmhcpfccfaaGreatDoor.Fast
/- A fast evaluator, part W: a call that begins where tables of integers stand (package-level variables that nothing writes). Of no program. -/
namespace Go.Proofs.YtfeppmhcpfccfaaGreatDoor.Fast
open Go Go.RowKit Go.Proofs.YtfeppmhcpfccfaaGreatDoor.Sim
noncomputable section
/-- a table: a variable of m rows of s cells -/
structure TabE where
  g : Nat
  e : TypeId
  s : Nat
  m : Nat
  l : List Value
def TabE.ok (N : Nat) (t : TabE) : Bool := Nat.blt 0 t.s && Nat.ble t.s 64 && Nat.ble t.m 512 && Nat.beq t.l.length (t.m * t.s) && t.l.all oneB && t.l.all leafFree && Nat.blt t.g N
def glT (T : List TabE) (g : Nat) : Bool := T.any fun t => Nat.beq t.g g
def rowP : List Value → Nat → Ro → (Ro → R) → R
  | [], _, f, k => k f
  | v :: l, i, f, k => (w64 FV i).put (fvOf v) f fun f => num (Nat.succ i) fun i => rowP l i f k
def rowsP (s : Nat) : Nat → List Value → Nat → Rows → (Rows → R) → R
  | 0, _, _, r, k => k r
  | m + 1, l, i, r, k => rowP (l.take s) 0 row0 fun x => (w512 Ro i).put x r fun r => num (Nat.succ i) fun i => rowsP s m (l.drop s) i r k
def startP : List TabE → Hp → (Hp → R) → R
  | [], H, k => k H
  | t :: T, H, k => rowsP t.s t.m t.l 0 rows0 fun r => (w262144 FO t.g).put (.blk r t.m t.s t.e false true) H fun H => startP T H k
/-- a call that begins where tables stand answers true -/
def saysTrueT (P : Program) (T : List TabE) (N fuel n : Nat) (f : FuncId) : R := startP T heap0 fun H => callF (glT T) P fuel n f slots0 ⟨H, N⟩ fun v _ => boolK v fun b => b

theorem rowP_eq : ∀ (l : List Value) (i : Nat) (f : Ro) (k : Ro → R), i + l.length ≤ 64 → rowP l i f k = k (rowOf l i f)
  | [], _, _, _, _ => rfl
  | v :: l, i, f, k, h => by
    have h : i + (l.length + 1) ≤ 64 := h
    unfold rowP
    rw [w64_put (by omega), num_eq, rowP_eq l (Nat.succ i) _ k (by omega)]
    rfl
theorem rowsP_eq (s : Nat) (hs : s ≤ 64) : ∀ (m : Nat) (l : List Value) (i : Nat) (r : Rows) (k : Rows → R), i + m ≤ 512 → rowsP s m l i r k = k (rowsOf s m l i r)
  | 0, _, _, _, _, _ => rfl
  | m + 1, l, i, r, k, h => by
    unfold rowsP
    rw [rowP_eq _ _ _ _ (by rw [List.length_take]; omega), w512_put (by omega), num_eq, rowsP_eq s hs m _ _ _ k (by omega)]
    rfl
def foOf (t : TabE) : FO := .blk (rowsOf t.s t.m t.l 0 rows0) t.m t.s t.e false true
def abOf (t : TabE) : ABk := ⟨.cells ⟨t.l⟩ t.e (0, 0), false, true⟩
def heapT : List TabE → Hp → Hp
  | [], H => H
  | t :: T, H => heapT T (Lh.set t.g (foOf t) H)
def memA : List TabE → AW → AW
  | [], A => A
  | t :: T, A => memA T (A.put t.g (some (abOf t)))
theorem TabE.ok_of {N : Nat} {t : TabE} (h : t.ok N = true) : 0 < t.s ∧ t.s ≤ 64 ∧ t.m ≤ 512 ∧ t.l.length = t.m * t.s ∧ (∀ v ∈ t.l, oneB v = true) ∧ (∀ v ∈ t.l, leafFree v = true) ∧ t.g < N := by
  unfold TabE.ok at h
  simp only [Bool.and_eq_true] at h
  obtain ⟨⟨⟨⟨⟨⟨h1, h2⟩, h3⟩, h4⟩, h5⟩, h6⟩, h7⟩ := h
  exact ⟨blt_lt h1, Nat.le_of_ble_eq_true h2, Nat.le_of_ble_eq_true h3, beq_eq h4, List.all_eq_true.1 h5, List.all_eq_true.1 h6, blt_lt h7⟩
theorem startP_eq {N : Nat} (hN : N ≤ 262144) : ∀ (T : List TabE) (H : Hp) (k : Hp → R), T.all (TabE.ok N) = true → startP T H k = k (heapT T H)
  | [], _, _, _ => rfl
  | t :: T, H, k, h => by
    rw [List.all_cons, Bool.and_eq_true] at h
    obtain ⟨h1, h2, h3, h4, h5, h6, h7⟩ := TabE.ok_of h.1
    unfold startP
    rw [rowsP_eq t.s h2 _ _ _ _ _ (by omega), w262144_put (by omega), startP_eq hN T _ k h.2]
    rfl
theorem memT {N : Nat} (hN : N ≤ 262144) : ∀ (T : List TabE) (H : Hp) (A : AW) (q : Nat), T.all (TabE.ok N) = true → MR ⟨H, q⟩ A → MR ⟨heapT T H, q⟩ (memA T A)
  | [], _, _, _, _, h => h
  | t :: T, H, A, q, h, hM => by
    rw [List.all_cons, Bool.and_eq_true] at h
    obtain ⟨h1, h2, h3, h4, h5, h6, h7⟩ := TabE.ok_of h.1
    refine memT hN T _ _ q h.2 ?_
    refine MR.putA (F := ⟨H, q⟩) hM (by omega) ?_
    refine .blk h1 h2 h3 h4 fun j hj => ?_
    rw [← rowsOf_cell h1 h2 h3 h4 h5 hj rows0]
    exact (List.getElem?_toArray ..).symm ▸ rfl
theorem memA_next : ∀ (T : List TabE) (A : AW), (memA T A).next = A.next
  | [], _ => rfl
  | t :: T, A => memA_next T _
theorem memA_get {N : Nat} (hN : N ≤ 262144) : ∀ (T : List TabE) (A : AW), T.all (TabE.ok N) = true → ∀ b x, (memA T A).heap.get b = some x → (∃ t ∈ T, t.g = b ∧ x = abOf t) ∨ A.heap.get b = some x
  | [], _, _, _, _, h => .inr h
  | t :: T, A, h, b, x, hx => by
    rw [List.all_cons, Bool.and_eq_true] at h
    obtain ⟨h1, h2, h3, h4, h5, h6, h7⟩ := TabE.ok_of h.1
    rcases memA_get hN T _ h.2 b x hx with ⟨u, q1, q2⟩ | q
    · exact .inl ⟨u, List.mem_cons_of_mem _ q1, q2⟩
    · rw [AW.put_at (by omega)] at q
      by_cases hb : b = t.g
      · rw [if_pos hb] at q
        injection q with q
        exact .inl ⟨t, List.mem_cons_self, hb.symm, q.symm⟩
      · rw [if_neg hb] at q
        exact .inr q
/-- a world where the tables stand -/
def StandT (T : List TabE) (w : World) : Prop := ∀ t ∈ T, ∃ e f, w.heap[t.g]? = some (.cells ⟨t.l⟩ e f)
def renT (T : List TabE) : Ren := fun b => if glT T b = true then some ⟨b, false, true, 0, 0, 0⟩ else none
theorem glT_iff {T : List TabE} {g : Nat} : glT T g = true ↔ ∃ t ∈ T, t.g = g := by
  unfold glT
  rw [List.any_eq_true]
  exact ⟨fun ⟨t, h1, h2⟩ => ⟨t, h1, beq_eq h2⟩, fun ⟨t, h1, h2⟩ => ⟨t, h1, by rw [h2]; exact Nat.beq_refl g⟩⟩
theorem standT {P : Program} {T : List TabE} {N : Nat} (hN : N ≤ 262143) (hT : T.all (TabE.ok N) = true) {w : World} (hw : StandT T w) :
    SR P w.heap.size ((Base.but ⟨w, fun _ _ => False, glT T, none, []⟩ fun _ _ => False).marked []) (renT T) (memA T ⟨.leaf, N⟩) w := by
  have hn : (memA T ⟨.leaf, N⟩).next = N := memA_next T _
  have hlt : ∀ g, glT T g = true → g < N := by
    intro g hg
    obtain ⟨t, h1, rfl⟩ := glT_iff.1 hg
    exact (TabE.ok_of (List.all_eq_true.1 hT t h1)).2.2.2.2.2.2
  have hren : ∀ b i, renT T b = some i → glT T b = true ∧ i = ⟨b, false, true, 0, 0, 0⟩ := by
    intro b i hb
    unfold renT at hb
    split at hb
    · rename_i hg; injection hb with hb; exact ⟨hg, hb.symm⟩
    · cases hb
  have hget : ∀ b x, (memA T ⟨.leaf, N⟩).heap.get b = some x → ∃ t ∈ T, t.g = b ∧ x = abOf t := by
    intro b x hx
    rcases memA_get (by omega) T _ hT b x hx with h | h
    · exact h
    · cases h
  refine ⟨Below.refl _ _, Nat.le_refl _, fun b i hb => ?_, ?_, fun b x hx => ?_, fun b x hb => hb.elim, fun b x i hx hi => ?_, fun b c x y i j hx hy hi hj he => ?_, fun g hg => ?_, List.nodup_nil, fun r hr => by cases hr⟩
  · rw [hn]; exact hlt b (hren b i hb).1
  · rw [hn]
    have : 2 ^ Sim.bits = 1073741824 := by decide
    omega
  · obtain ⟨t, h1, h2, _⟩ := hget b x hx
    rw [hn, ← h2]
    exact (TabE.ok_of (List.all_eq_true.1 hT t h1)).2.2.2.2.2.2
  · obtain ⟨hg, rfl⟩ := hren b i hi
    obtain ⟨t, h1, h2, rfl⟩ := hget b x hx
    obtain ⟨e, f, h3⟩ := hw t h1
    refine ⟨.inl rfl, _, by rw [h2] at h3; exact h3, ?_⟩
    refine .tab rfl rfl ⟨rfl, fun j hj _ => leafFree_rel _ ?_⟩ rfl
    exact (TabE.ok_of (List.all_eq_true.1 hT t h1)).2.2.2.2.2.1 _ (by simp)
  · obtain ⟨_, rfl⟩ := hren b i hi
    obtain ⟨_, rfl⟩ := hren c j hj
    exact he
  · refine ⟨⟨g, false, true, 0, 0, 0⟩, ?_, rfl, rfl⟩
    unfold renT
    exact if_pos hg
/-- what says true where tables stand is true in every world where they stand -/
theorem saysT {P : Program} (G : Sim.Good P) (hBld : BldOk P) {T : List TabE} {N fuel m : Nat} {f : FuncId} (hN : Nat.ble N 262143 = true) (hT : T.all (TabE.ok N) = true) (hf : Nat.blt f yB = true) (h : saysTrueT P T N fuel m f = true) (w : World) (hw : StandT T w) : Calls P f #[] w fun e w' => e = .returned (.bool true) ∧ Below w.heap.size w w' := by
  have hN' : N ≤ 262143 := Nat.le_of_ble_eq_true hN
  unfold saysTrueT at h
  rw [startP_eq (N := N) (by omega) T _ _ hT, callF_eq] at h
  have hM : MR ⟨heapT T heap0, N⟩ (memA T ⟨.leaf, N⟩) := memT (N := N) (by omega) T _ _ N hT ⟨rfl, fun b hb => emptyF_ok.blk b hb⟩
  have := (callK_ok (B := w.heap.size) G hBld fuel m ⟨w, fun _ _ => False, glT T, none, []⟩).2.1 f slots0 ⟨heapT T heap0, N⟩ (memA T ⟨.leaf, N⟩) #[] _ (blt_lt hf) slots0_arg hM h
  refine (this (fun _ _ => False) [] _ w #[] (standT hN' hT hw) (AR.empty _)).mono ?_
  rintro e w' ⟨ρ', v, v', A', g1, ⟨sv, F', q1, q2, q3⟩, g3, g4, g5⟩
  obtain ⟨b, rfl, q4⟩ := boolK_true q3
  rw [q4] at q1
  subst q1
  rw [g1]
  cases g5 with
  | bool => exact ⟨rfl, g4.below⟩
end
end Go.Proofs.YtfeppmhcpfccfaaGreatDoor.Fast
