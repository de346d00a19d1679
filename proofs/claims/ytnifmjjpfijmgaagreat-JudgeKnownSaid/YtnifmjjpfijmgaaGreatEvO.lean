/- A fast evaluator, part O: what a call answers; the whole. Of no program. -/
import Derived.Test.YtnifmjjpfijmgaaGreatEvN
namespace Go.Proofs.YtnifmjjpfijmgaaGreat.Fast
open Go Go.RowKit Go.Proofs.YtnifmjjpfijmgaaGreat.Sim
noncomputable section
section
variable {P : Program} {B : Nat} {w0 : Base} {n : Nat}
theorem resK_true : ∀ (rs : List ResultVar) (l : List Res) {k : SV → R} {L : Sl} {F : FM} {t : Array Value} {A : AW}, resOf P n rs = some l → SlR L t → n ≤ t.size → MR F A → resK l L F k = true →
    ∃ s : SV, resAll P t A rs = some s.tl ∧ k s = true ∧ ((s = .nil ∧ s.tl = []) ∨ ∃ a b, s = .cons a b ∧ s.tl = a.up :: b.tl ∧ (b = .nil ∨ ∃ c d, b = .cons c d))
  | [], l, k, L, F, t, A, hl, hL, hn, hM, h => by
    injection hl with hl; subst hl
    exact ⟨.nil, rfl, h, .inl ⟨rfl, rfl⟩⟩
  | r :: rs, l, k, L, F, t, A, hl, hL, hn, hM, h => by
    have tail : ∀ (l' : List Res) (v : Value) (a : SV) (K : SV → R), resOf P n rs = some l' → (∀ r : SV, SV.tl (.cons a r) = a.up :: r.tl) → a.up = v → resOne P t A r = some v → resK l' L F (fun r => K (.cons a r)) = true → K = k →
        ∃ s : SV, resAll P t A (r :: rs) = some s.tl ∧ k s = true ∧ ((s = .nil ∧ s.tl = []) ∨ ∃ a b, s = .cons a b ∧ s.tl = a.up :: b.tl ∧ (b = .nil ∨ ∃ c d, b = .cons c d)) := by
      intro l' v a K h1 h2 h3 h4 h5 h6
      subst h6
      obtain ⟨s, g1, g2, g3⟩ := resK_true rs l' h1 hL hn hM h5
      refine ⟨.cons a s, ?_, g2, .inr ⟨a, s, rfl, h2 s, ?_⟩⟩
      · show (match resOne P t A r, resAll P t A rs with | some v, some l => some (v :: l) | _, _ => none) = _
        rw [h4, g1, h2 s, h3]
      · rcases g3 with ⟨rfl, _⟩ | ⟨c, d, rfl, _, _⟩
        · exact .inl rfl
        · exact .inr ⟨c, d, rfl⟩
    cases r with
    | tmp i =>
      unfold resOf at hl
      cases ha : accT n i with
      | none => rw [ha] at hl; cases hl
      | some a =>
        rw [ha] at hl
        cases hr : resOf P n rs with
        | none => rw [hr] at hl; cases hl
        | some l' =>
          rw [hr] at hl
          injection hl with hl; subst hl
          obtain ⟨h1, h2⟩ := hd1_true (show hd1 (a L) (fun v => resK l' L F fun r => k (.cons v r)) = true from h)
          exact tail l' _ (a L) k hr h2 rfl (by show some (t.getD i undef) = _; rw [accT_ok ha L t hL hn]; rfl) h1 rfl
    | cell d ty =>
      unfold resOf at hl
      cases ha : accT n d with
      | none => rw [ha] at hl; cases hl
      | some a =>
        rw [ha] at hl
        have hacc := accT_ok ha L t hL hn
        cases hg : aggB P ty with
        | none => rw [hg] at hl; cases hl
        | some q =>
          rw [hg] at hl
          cases hr : resOf P n rs with
          | none => rw [hr] at hl; cases q <;> cases hl
          | some l' =>
            rw [hr] at hl
            have one : ∀ {hd : Held} {v : Value}, loadL P A ty (ev t (.tmp d)) = some (hd, v) → resOne P t A (.cell d ty) = some v := by
              intro hd v he
              show (match loadL P A ty (t.getD d undef) with | some (_, v) => some v | none => none) = _
              rw [show t.getD d undef = ev t (.tmp d) from rfl, he]
            cases q with
            | true =>
              injection hl with hl; subst hl
              obtain ⟨b, o, h3, h4⟩ := ptrK_true (show ptrK (a L) _ = true from h)
              obtain ⟨hb, rows, m, esz, e, fam, ro, h5, h6⟩ := blkK_true h4
              obtain ⟨c, hc⟩ := hM.at hb h5
              obtain ⟨r, g1, g2, g3⟩ := subK_true hc.h0 hc.h1 hc.h2 h6
              rw [h3] at hacc
              have hcell : cellsA A b o (sizeB P ty) = some (rowL r (sizeB P ty)) := hc.cells g2 (rowL_len _ _) fun p hp => by
                rw [rowL_get, if_pos hp, (g3 p hp).2]
              exact tail l' _ (.row (sizeB P ty) r) k hr (fun r => rfl) rfl (one (by rw [← hacc]; exact load_all hg hcell (aggB_info hg))) g1 rfl
            | false =>
              injection hl with hl; subst hl
              obtain ⟨b, o, h3, h4⟩ := ptrK_true (show ptrK (a L) _ = true from h)
              obtain ⟨hb, rows, m, esz, e, fam, ro, h5, h6⟩ := blkK_true h4
              obtain ⟨c, hc⟩ := hM.at hb h5
              obtain ⟨h7, h8⟩ := inB_true h6
              rw [fvF_eq, wCell_get h7 hc.h0 hc.h1 hc.h2] at h8
              rw [h3] at hacc
              have hcell : cellsA A b o 1 = some [(cellAt rows esz o).up] := hc.cells (by omega) rfl fun p hp => by
                have : p = 0 := by omega
                subst this; rfl
              exact tail l' _ (.val (cellAt rows esz o)) k hr (fun r => rfl) rfl (one (by rw [← hacc]; exact load_one hg hcell)) h8 rfl
theorem decFn_mk {gl : Nat → Bool} {f : FuncId} {code : CD} {res : List Res} (h : decFn gl P f = .mk code res) : ∃ fn c, P.funcs[f]? = some fn ∧ fn.body = some c ∧ resOf P fn.ntmps fn.results.toList = some res ∧ fn.ntmps ≤ 512 ∧ code = compC gl P fn.ntmps c := by
  unfold decFn at h
  cases hf : P.funcs[f]? with
  | none => rw [hf] at h; cases h
  | some fn =>
    rw [hf] at h
    dsimp only at h
    cases hb : fn.body with
    | none => rw [hb] at h; cases h
    | some c =>
      rw [hb] at h
      dsimp only at h
      cases hr : resOf P fn.ntmps fn.results.toList with
      | none => rw [hr] at h; cases h
      | some r =>
        rw [hr] at h
        dsimp only at h
        cases hq : Nat.ble fn.ntmps 512 with
        | false => rw [hq] at h; cases h
        | true =>
          rw [hq, cond_true] at h
          injection h with h1 h2
          exact ⟨fn, c, rfl, hb, by rw [hr, h2], Nat.le_of_ble_eq_true hq, h1.symm⟩
/-- a call that the evaluator brings to its end -/
theorem callK_ok (G : Sim.Good P) (fuel : Nat) : ∀ m, RcOk P B w0 (callK w0.gl P fuel m) := by
  intro m
  induction m with
  | zero => intro f S F A args k _ _ h; exact not_bad h
  | succ m ih =>
    intro f S F A args k hS hM h
    cases hd : decFn w0.gl P f with
    | bad =>
      have h' : FnD.rec (motive := fun _ => R) (fun code res => pass (runC fuel (callK w0.gl P fuel m) code S F fun e M F => AE.rec (motive := fun _ => R) (resK res M F fun l => oneRes l fun v => k v F) (fun _ => Fast.bad) (resK res M F fun l => oneRes l fun v => k v F) e)) Fast.bad (decFn w0.gl P f) = true := h
      rw [hd] at h'
      exact not_bad h'
    | mk code res =>
      have h' : FnD.rec (motive := fun _ => R) (fun code res => pass (runC fuel (callK w0.gl P fuel m) code S F fun e M F => AE.rec (motive := fun _ => R) (resK res M F fun l => oneRes l fun v => k v F) (fun _ => Fast.bad) (resK res M F fun l => oneRes l fun v => k v F) e)) Fast.bad (decFn w0.gl P f) = true := h
      rw [hd] at h'
      obtain ⟨fn, c, hf, hb, hr, h5, rfl⟩ := decFn_mk hd
      have hsz : (args ++ Array.replicate (fn.ntmps - args.size) undef).size = args.size + (fn.ntmps - args.size) := by simp
      have hargs := hS.size
      have hL : SlR S (args ++ Array.replicate (fn.ntmps - args.size) undef) := by
        refine ⟨by omega, fun d hd => ?_⟩
        rw [hsz] at hd
        by_cases hq : d < args.size
        · rw [Array.getElem?_append_left hq]; exact hS.get d hq
        · rw [Array.getElem?_append_right (by omega), Array.getElem?_replicate, if_pos (by omega), hS.rest d (by omega) (by omega)]
      refine CallS.of G hf hb (CodeS_mono (code_true G fuel ih c hL (by omega) hM h') ?_)
      rintro e t1 A1 ⟨S1, F1, g1, g2, g3, g4⟩
      have fin : resK res S1 F1 (fun l => oneRes l fun v => k v F1) = true → ∃ v, resA P fn t1 A1 = some v ∧ Post k v A1 := by
        intro hq
        obtain ⟨s, q1, q2, q3⟩ := resK_true _ _ hr g1 g2 g3 hq
        unfold resA
        rw [q1]
        rcases q3 with ⟨rfl, q4⟩ | ⟨a, b, rfl, q4, q5⟩
        · exact ⟨_, rfl, .nil, F1, rfl, g3, q2⟩
        · rcases q5 with rfl | ⟨c, d, rfl⟩
          · rw [q4]
            exact ⟨_, rfl, a, F1, rfl, g3, q2⟩
          · have q6 : ∃ x y, SV.tl (.cons c d) = x :: y := by cases c <;> exact ⟨_, _, rfl⟩
            obtain ⟨x, y, q6⟩ := q6
            rw [q4, q6]
            refine ⟨_, rfl, .cons a (.cons c d), F1, ?_, g3, q2⟩
            show Value.tuple ⟨SV.tl (.cons a (.cons c d))⟩ = _
            rw [q4, q6]
      cases e with
      | normal => exact ⟨.inl rfl, fin g4⟩
      | ret => exact ⟨.inr rfl, fin g4⟩
      | exit i => exact not_bad g4
theorem emptyF_ok : MR emptyF ⟨.leaf, 0⟩ := by
  refine ⟨rfl, fun b hb => ?_⟩
  have : Lh.get b heap0 = .no := by
    show (L4096 FO).get (b % 4096) ((L8 (F4096 FO)).get (b / 4096) (r8 (r8 (r8 (r8 (r8 .no)))))) = _
    rw [r8_get]
    show (L512 FO).get (b % 4096 % 512) ((L8 (F512 FO)).get (b % 4096 / 512) (r8 (r8 (r8 (r8 .no))))) = _
    rw [r8_get]
    exact r8_at _ _ (Nat.mod_lt _ (by decide))
  show BlkR (Lh.get b heap0) _
  rw [this]
  exact .no _
theorem slots0_arg : ArgR slots0 #[] := ⟨by decide, fun d hd => absurd hd (Nat.not_lt_zero d), fun d _ hd => by
  show SV.up ((L512 SV).get d (r8 (r8 (r8 u0)))) = undef
  rw [r8_at _ _ hd]
  rfl⟩
/-- THE WHOLE: what says true from nothing is true in every world -/
theorem says (G : Sim.Good P) {fuel m : Nat} {f : FuncId} (h : saysTrue P fuel m f = true) (w : World) : Calls P f #[] w fun e w' => e = .returned (.bool true) ∧ Below w.heap.size w w' := by
  refine whole (args := #[]) (v := .bool true) ?_ (by simp) rfl
  have := callK_ok (B := w.heap.size) (w0 := ⟨w, fun _ _ => False, fun _ => false⟩) G fuel m f slots0 emptyF ⟨.leaf, 0⟩ #[] _ slots0_arg emptyF_ok h
  intro Γ ρ w1 args' h1 h2
  refine (this Γ ρ w1 args' h1 h2).mono ?_
  rintro e w' ⟨ρ', v, v', A', g1, ⟨sv, F', q1, q2, q3⟩, g3, g4, g5⟩
  refine ⟨ρ', v, v', A', g1, ?_, g3, g4, g5⟩
  obtain ⟨b, rfl, q4⟩ := boolK_true q3
  rw [← q1, q4]
  rfl
end
end
end Go.Proofs.YtnifmjjpfijmgaaGreat.Fast
