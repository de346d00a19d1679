/- A fast evaluator, part M: regions. Of no program. -/
import Derived.Test.YtnneooidkbhbeaaGreatDoorEvL
set_option linter.unusedVariables false
set_option linter.unusedSimpArgs false
namespace Go.Proofs.YtnneooidkbhbeaaGreatDoor.Fast
open Go Go.RowKit Go.Proofs.YtnneooidkbhbeaaGreatDoor.Sim
noncomputable section

/-- what one slot reads as another reads -/
theorem eqF_up {x y : FV} (h : eqF x y = true) : x.up = y.up := by
  unfold eqF at h
  split at h
  · rename_i a b
    cases a <;> cases b <;> first | rfl | cases h
  · rename_i i a j b
    rw [Bool.and_eq_true] at h
    obtain rfl := kix_inj h.1
    have := h.2
    rw [intEq_eq] at this
    rw [of_decide_eq_true this]
  · rename_i n z m w
    rw [Bool.and_eq_true] at h
    rw [beq_eq h.1, beq_eq h.2]
  · rename_i b o c p
    rw [Bool.and_eq_true] at h
    rw [beq_eq h.1, beq_eq h.2]
  · rename_i b o n c b' o' n' c'
    rw [Bool.and_eq_true, Bool.and_eq_true, Bool.and_eq_true] at h
    rw [beq_eq h.1.1.1, beq_eq h.1.1.2, beq_eq h.1.2, beq_eq h.2]
  · rename_i n c m d
    rw [Bool.and_eq_true] at h
    rw [beq_eq h.1, beq_eq h.2]
  · rename_i g f c g' f' c'
    rw [Bool.and_eq_true, Bool.and_eq_true] at h
    rw [beq_eq h.1.1, eqL_eq (eqV_eq 8) h.1.2, eqL_eq (eqV_eq 8) h.2]
  · rw [beq_eq h]
  · rw [eqV_eq 8 _ _ h]
  · cases h
theorem eqRow_up : ∀ (m i : Nat) (f g : Ro), i + m ≤ 64 → eqRow m i f g = true → ∀ p, i ≤ p → p < i + m → (Lr.get p f).up = (Lr.get p g).up
  | 0, i, f, g, _, _, p, h1, h2 => by omega
  | m + 1, i, f, g, hm, h, p, h1, h2 => by
    have h' : (eqF ((w64 FV i).get f) ((w64 FV i).get g) && eqRow m (i + 1) f g) = true := h
    rw [Bool.and_eq_true, w64_get (by omega), w64_get (by omega)] at h'
    by_cases hp : p = i
    · subst hp; exact eqF_up h'.1
    · exact eqRow_up m (i + 1) f g (by omega) h'.2 p (by omega) (by omega)
theorem eqS_up {x y : SV} (h : eqS x y = true) : x.up = y.up := by
  unfold eqS at h
  split at h
  · rename_i a b; exact eqF_up h
  · rename_i n f m g
    rw [Bool.and_eq_true, Bool.and_eq_true] at h
    obtain ⟨⟨h1, h2⟩, h3⟩ := h
    obtain rfl := beq_eq h1
    have h64 : n ≤ 64 := Nat.le_of_ble_eq_true h2
    show Value.agg ⟨rowL f n⟩ = .agg ⟨rowL g n⟩
    congr 2
    apply List.ext_getElem?
    intro p
    rw [rowL_get, rowL_get]
    by_cases hp : p < n
    · rw [if_pos hp, if_pos hp, eqRow_up n 0 f g (by omega) h3 p (by omega) (by omega)]
    · rw [if_neg hp, if_neg hp]
  · cases h
section
variable {P : Program} {B : Nat} {w0 : Base} {n : Nat} {gl : Nat → Bool} {ops : Array Oper}
theorem accOf_okX {x : Operand} {a : Acc} (h : accOf gl n x = some a) : okX x = true ∧ glX gl x = true := by
  cases x with
  | tmp d => exact ⟨rfl, rfl⟩
  | func f => exact ⟨rfl, rfl⟩
  | const v =>
    unfold accOf at h
    dsimp only at h
    cases hq : free v && svOk v with
    | false => rw [hq] at h; cases h
    | true => rw [Bool.and_eq_true] at hq; exact ⟨hq.1, rfl⟩
  | global g =>
    unfold accOf at h
    dsimp only at h
    cases hq : gl g with
    | false => rw [hq] at h; cases h
    | true => exact ⟨rfl, hq⟩
theorem stepW_mono {t : Array Value} {o : Oper} {A : AW} {K K' : Value → AW → Prop} (h : stepW P B w0 t o A K) (hK : ∀ v A, K v A → K' v A) : stepW P B w0 t o A K' := by
  refine ⟨h.1, ?_⟩
  have := h.2
  cases hq : opA P (ev t) o A with
  | none =>
    rw [hq] at this
    obtain ⟨k1, x, k2, k3, k4⟩ := this
    exact ⟨k1, x, k2, k3, fun p hp => hK _ _ (k4 p hp)⟩
  | some x =>
    obtain ⟨m, A'⟩ := x
    rw [hq] at this
    cases m with
    | val v => exact hK _ _ this
    | skip => exact hK _ _ this
    | enter f args =>
      intro Γ M ρ w args' h1 h2
      refine (this Γ M ρ w args' h1 h2).mono ?_
      rintro e w' ⟨ρ', v, v', A2, g1, g2, g3, g4, g5⟩
      exact ⟨ρ', v, v', A2, g1, hK _ _ g2, g3, g4, g5⟩
    | round b tm a c =>
      intro Γ M ρ w tm' i f h1 h2 h3
      refine (this Γ M ρ w tm' i f h1 h2 h3).mono ?_
      rintro e w' ⟨ρ', v, v', A2, g1, g2, g3, g4, g5⟩
      exact ⟨ρ', v, v', A2, g1, hK _ _ g2, g3, g4, g5⟩
theorem quietW_mono {t : Array Value} {o : Oper} {A : AW} {K K' : Value → AW → Prop} (h : quietW P gl t o A K) (hK : ∀ v A, K v A → K' v A) : quietW P gl t o A K' := by
  refine ⟨h.1, ?_⟩
  have := h.2
  cases hq : quietA P (ev t) A o with
  | none => rw [hq] at this; exact this
  | some q =>
    rw [hq] at this
    cases q with
    | val v => exact hK _ _ this
    | ghost c e m => exact ⟨this.1, this.2.1, hK _ _ this.2.2⟩
theorem CodeS_mono {c : Code} {t : Array Value} {A : AW} {K K' : AE → Array Value → AW → Prop} (h : CodeS P B w0 c t A K) (hK : ∀ e t A, K e t A → K' e t A) : CodeS P B w0 c t A K' :=
  fun Q ds Γ M ρ w t' hs ht hQ => h Q ds Γ M ρ w t' hs ht fun e ρ' t1 A1 t2 w' M1 g0 g1 g2 g3 => hQ e ρ' t1 A1 t2 w' M1 (hK _ _ _ g0) g1 g2 g3
/-- how things stand behind an operation -/
def KK (n : Nat) (k : Sl → FM → R) (t : Array Value) (A : AW) : Prop := ∃ S F, SlR S t ∧ n ≤ t.size ∧ MR F A ∧ k S F = true
theorem rGuard_true {g : Acc} {want : Bool} {c : Op1} {rec : Rc} {L : Sl} {F : FM} {k : SV → FM → R} (h : rGuard g want c rec L F k = true) : ((g L).up = .bool want ∧ c rec L F k = true) ∨ ((∀ q, (g L).up = .bool q → q ≠ want) ∧ k u0 F = true) := by
  unfold rGuard at h
  cases hg : g L with
  | val v =>
    rw [hg] at h
    have h' : guardV v want (c rec L F k) (k u0 F) = true := h
    cases v with
    | bool q =>
      cases q <;> cases want <;> first
        | exact .inl ⟨rfl, h'⟩
        | exact .inr ⟨fun q hq => by { injection hq with hq; subst hq; decide }, h'⟩
    | val v => exact not_bad h'
    | _ => exact .inr ⟨fun q hq => (by cases hq), h'⟩
  | row m f => rw [hg] at h; exact .inr ⟨fun q hq => (by cases hq), h⟩
  | nil => rw [hg] at h; exact .inr ⟨fun q hq => (by cases hq), h⟩
  | cons a b => rw [hg] at h; exact .inr ⟨fun q hq => (by cases hq), h⟩
theorem guardOf_true {o : Oper} {c : Op1} {rec : Rc} {L : Sl} {F : FM} {k : SV → FM → R} {t : Array Value} (hL : SlR L t) (hn : n ≤ t.size) (h : guardOf n ops o c rec L F k = true) : (Region.wanted o (yielded ops t) = true ∧ c rec L F k = true) ∨ (Region.wanted o (yielded ops t) = false ∧ k u0 F = true) := by
  unfold guardOf at h
  unfold Region.wanted
  cases hg : o.guard with
  | none => rw [hg] at h; exact .inl ⟨rfl, h⟩
  | some gw =>
    obtain ⟨g, want⟩ := gw
    rw [hg] at h
    dsimp only at h ⊢
    cases hq : ops[g]? with
    | none => rw [hq] at h; exact not_bad h
    | some q =>
      rw [hq] at h
      dsimp only at h
      cases hd : q.dst with
      | none => rw [hd] at h; exact not_bad h
      | some d =>
        rw [hd] at h
        dsimp only at h
        cases ha : accT n d with
        | none => rw [ha] at h; exact not_bad h
        | some a =>
          rw [ha] at h
          have hv := accT_ok ha L t hL hn
          have hlt : d < t.size := by
            rw [accT_def] at ha
            cases hb : (Nat.blt d n && Nat.ble n 512) with
            | false => rw [hb] at ha; cases ha
            | true => rw [Bool.and_eq_true] at hb; exact Nat.lt_of_lt_of_le (blt_lt hb.1) hn
          have hget : t[d]? = some (a L).up := by
            have h1 := hL.get d hlt
            have h2 : ev t (.tmp d) = (t[d]?).getD undef := by
              show t.getD d undef = _
              rw [Array.getD_eq_getD_getElem?]
            rw [hv, h2, h1]
            rfl
          have hy : yielded ops t g = (match (a L).up with | .bool b => some b | _ => none) := by
            unfold yielded
            rw [hq]
            simp only [Option.bind_some, hd]
            rw [hget]
            cases (a L).up <;> rfl
          rcases rGuard_true h with ⟨h1, h2⟩ | ⟨h1, h2⟩
          · refine .inl ⟨?_, h2⟩
            rw [hy, h1]
            simp
          · refine .inr ⟨?_, h2⟩
            rw [hy]
            generalize (a L).up = u at h1
            cases u with
            | bool b =>
              have := h1 b rfl
              simp [this]
            | _ => rfl
/-- one operation, its slot written -/
theorem putS_true {d : Option Tmp} {c : Op1} {rec : Rc} {L : Sl} {F : FM} {k : Sl → FM → R} {t : Array Value} (hL : SlR L t) (hn : n ≤ t.size) (hd : dstB n d = true) (h5 : n ≤ 512) (h : putS d c rec L F k = true) : ∃ k' : SV → FM → R, c rec L F k' = true ∧ ∀ v A, Post k' v A → KK n k (putA t d v) A := by
  cases d with
  | none =>
    refine ⟨fun _ F => k L F, h, ?_⟩
    rintro v A ⟨sv, F', _, h2, h3⟩
    exact ⟨L, F', hL, hn, h2, h3⟩
  | some d =>
    have hdn : d < n := blt_lt hd
    refine ⟨fun v F => (w512 SV d).put v L fun L => k L F, h, ?_⟩
    rintro v A ⟨sv, F', h1, h2, h3⟩
    have h3' : (w512 SV d).put sv L (fun L => k L F') = true := h3
    rw [w512_put (Nat.lt_of_lt_of_le hdn h5)] at h3'
    exact ⟨_, F', hL.put (Nat.lt_of_lt_of_le hdn hn) h1, by show n ≤ (t.setIfInBounds d v).size; rw [Array.size_setIfInBounds]; exact hn, h2, h3'⟩
theorem stepOf_true {i : Nat} {rec : Rc} {L : Sl} {F : FM} {k : Sl → FM → R} (h : stepOf gl P n ops i rec L F k = true) : ∃ o, ops[i]? = some o ∧ dstB n o.dst = true ∧ n ≤ 512 ∧ okOp o = true ∧ glOp gl o = true ∧ ghOk o = true ∧ putS o.dst (guardOf n ops o (decOp gl P n o)) rec L F k = true := by
  unfold stepOf at h
  cases ho : ops[i]? with
  | none => rw [ho] at h; exact not_bad h
  | some o =>
    rw [ho] at h
    dsimp only at h
    cases hq : (dstB n o.dst && Nat.ble n 512 && okOp o && glOp gl o && ghOk o) with
    | false => rw [hq] at h; exact not_bad h
    | true =>
      rw [hq, cond_true] at h
      rw [Bool.and_eq_true, Bool.and_eq_true, Bool.and_eq_true, Bool.and_eq_true] at hq
      exact ⟨o, rfl, hq.1.1.1.1, Nat.le_of_ble_eq_true hq.1.1.1.2, hq.1.1.2, hq.1.2, hq.2, h⟩
theorem quietA_ghost_op {t : Operand → Value} {A : AW} {o : Oper} {c : Array Value} {e : TypeId} {m : Option (Nat × Nat)} (h : quietA P t A o = some (.ghost c e m)) (hg : ghOk o = true) : o.dst.isSome = true := by
  have hc : cls t o = .ghost := by
    unfold quietA at h
    cases hk : okOp o with
    | false => rw [hk] at h; cases h
    | true =>
      rw [hk, cond_true] at h
      cases hc : cls t o with
      | ghost => rfl
      | pure => rw [hc] at h; dsimp only at h; cases hx : opQ P t o <;> rw [hx] at h <;> cases h
      | mem => rw [hc] at h; dsimp only at h; cases hx : opM P t A o <;> rw [hx] at h <;> cases h
  unfold ghOk at hg
  unfold cls at hc
  split at hg
  · exact hg
  · exact hg
  · exact hg
  · exact hg
  · rename_i h1 h2 h3 h4
    split at hc
    · cases hc
    · split at hc <;> cases hc
    · rename_i he; exact absurd he (h1 _)
    · rename_i he; exact absurd he (h2 _ _)
    · rename_i he; exact absurd he (h3 _ _ _)
    · rename_i he; exact absurd he (h4 _ _ _)
    · split at hc
      · split at hc <;> cases hc
      · cases hc
    · cases hc
theorem quiet_step {o : Oper} (hl : loudB o = false) (hd : dstB n o.dst = true) (hk : okOp o = true) (hg : glOp gl o = true) (hgh : ghOk o = true) {rec : Rc} {L : Sl} {F : FM} {k : SV → FM → R} {t : Array Value} {A : AW} (hL : SlR L t) (hn : n ≤ t.size) (hM : MR F A) (h : decOp gl P n o rec L F k = true) {K : Value → AW → Prop} (hK : ∀ v A, Post k v A → K v A) : quietW P gl t o A K := by
  refine ⟨hg, ?_⟩
  have := (decOp_ok (P := P) (B := 0) (w0 := default) (n := n) (gl := gl) hk).1 hl rec L F k t A hL hn hM h
  cases hq : quietA P (ev t) A o with
  | none => rw [hq] at this; exact this
  | some q =>
    rw [hq] at this
    cases q with
    | val v => exact hK _ _ this
    | ghost c e m =>
      refine ⟨this.1, ?_, hK _ _ this.2⟩
      have hs := quietA_ghost_op hq hgh
      cases hdd : o.dst with
      | none => rw [hdd] at hs; cases hs
      | some d =>
        rw [hdd] at hd
        have hdn : d < n := blt_lt hd
        exact Nat.ble_eq_true_of_le (Nat.lt_of_lt_of_le hdn hn)
theorem loud_step {o : Oper} (hl : loudB o = true) (hk : okOp o = true) (hg : glOp w0.gl o = true) {rec : Rc} (hR : RcOk P B w0 rec) {L : Sl} {F : FM} {k : SV → FM → R} {t : Array Value} {A : AW} (hL : SlR L t) (hn : n ≤ t.size) (hM : MR F A) (h : decOp w0.gl P n o rec L F k = true) {K : Value → AW → Prop} (hK : ∀ v A, Post k v A → K v A) : stepW P B w0 t o A K := by
  refine ⟨hg, ?_⟩
  have := (decOp_ok (P := P) (B := B) (w0 := w0) (n := n) (gl := w0.gl) hk).2 hl rec L F k t A hR hL hn hM h
  cases hq : opA P (ev t) o A with
  | none =>
    rw [hq] at this
    obtain ⟨k1, x, k2, k3, k4⟩ := this
    exact ⟨k1, x, k2, k3, fun p hp => hK _ _ (k4 p hp)⟩
  | some x =>
    obtain ⟨m, A'⟩ := x
    rw [hq] at this
    cases m with
    | val v => exact hK _ _ this
    | skip => exact hK _ _ this
    | enter f args =>
      intro Γ M ρ w args' h1 h2
      refine (this Γ M ρ w args' h1 h2).mono ?_
      rintro e w' ⟨ρ', v, v', A2, g1, g2, g3, g4, g5⟩
      exact ⟨ρ', v, v', A2, g1, hK _ _ g2, g3, g4, g5⟩
    | round b tm a c =>
      intro Γ M ρ w tm' i f h1 h2 h3
      refine (this Γ M ρ w tm' i f h1 h2 h3).mono ?_
      rintro e w' ⟨ρ', v, v', A2, g1, g2, g3, g4, g5⟩
      exact ⟨ρ', v, v', A2, g1, hK _ _ g2, g3, g4, g5⟩
/-- what was read is read again -/
theorem againOf_true : ∀ (re : List Nat) {rec : Rc} {L : Sl} {F : FM} {k : Sl → FM → R} {t : Array Value} {A : AW}, SlR L t → n ≤ t.size → MR F A → againOf gl P n ops re rec L F k = true → againP P ops t A re ∧ KK n k t A
  | [], rec, L, F, k, t, A, hL, hn, hM, h => ⟨fun j hj => (by cases hj), L, F, hL, hn, hM, h⟩
  | j :: l, rec, L, F, k, t, A, hL, hn, hM, h => by
    unfold againOf at h
    cases ho : ops[j]? with
    | none => rw [ho] at h; exact not_bad h
    | some o =>
      rw [ho] at h
      dsimp only at h
      cases hd : o.dst with
      | none => rw [hd] at h; exact not_bad h
      | some d =>
        rw [hd] at h
        dsimp only at h
        cases ha : accT n d with
        | none => rw [ha] at h; exact not_bad h
        | some a =>
          rw [ha] at h
          dsimp only at h
          cases hq : (okOp o && glOp gl o && memK o && !loudB o) with
          | false => rw [hq] at h; exact not_bad h
          | true =>
            rw [hq, cond_true] at h
            rw [Bool.and_eq_true, Bool.and_eq_true, Bool.and_eq_true, Bool.not_eq_true'] at hq
            obtain ⟨⟨⟨hk, hgl⟩, hmem⟩, hl⟩ := hq
            have fin : ∀ {F : FM}, MR F A → pass (againOf gl P n ops l rec L F k) = true → againP P ops t A l ∧ KK n k t A := fun hM h => againOf_true l hL hn hM h
            rcases guardOf_true hL hn h with ⟨hw, h1⟩ | ⟨hw, h1⟩
            · have hdec := (decOp_ok (P := P) (B := 0) (w0 := default) (n := n) (gl := gl) hk).1 hl rec L F _ t A hL hn hM h1
              cases hqa : quietA P (ev t) A o with
              | none => rw [hqa] at hdec; exact hdec.elim
              | some q =>
                rw [hqa] at hdec
                cases q with
                | ghost c e m => rw [quietA_ghost_mem hqa] at hmem; cases hmem
                | val v =>
                  obtain ⟨sv, F', g1, g2, g3⟩ := hdec
                  obtain ⟨g4, g5⟩ := ifK_true g3
                  obtain ⟨f1, f2⟩ := fin g2 g5
                  refine ⟨fun j2 hj2 o2 ho2 hw2 => ?_, f2⟩
                  rcases List.mem_cons.1 hj2 with rfl | hj2
                  · rw [ho] at ho2; injection ho2 with ho2; subst ho2
                    refine ⟨v, hqa, fun i x hi hx => ?_⟩
                    rw [hd] at hi; injection hi with hi; subst hi
                    have e1 := eqS_up g4
                    have e2 := accT_ok ha L t hL hn
                    have e3 : ev t (.tmp d) = x := by
                      show t.getD d undef = x
                      rw [Array.getD_eq_getD_getElem?, hx]; rfl
                    rw [← e3, ← e2, ← e1, g1]
                  · exact f1 j2 hj2 o2 ho2 hw2
            · obtain ⟨f1, f2⟩ := fin hM h1
              refine ⟨fun j2 hj2 o2 ho2 hw2 => ?_, f2⟩
              rcases List.mem_cons.1 hj2 with rfl | hj2
              · rw [ho] at ho2; injection ho2 with ho2; subst ho2
                rw [hw] at hw2; cases hw2
              · exact f1 j2 hj2 o2 ho2 hw2
end
end
end Go.Proofs.YtnneooidkbhbeaaGreatDoor.Fast
