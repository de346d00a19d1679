/- A fast evaluator, part O: what a call answers; the whole. Of no program. -/
import Derived.Test.YtnneooidkbhbeaaGreatDoorEvN
set_option linter.unusedVariables false
set_option linter.unusedSimpArgs false
namespace Go.Proofs.YtnneooidkbhbeaaGreatDoor.Fast
open Go Go.RowKit Go.Proofs.YtnneooidkbhbeaaGreatDoor.Sim
noncomputable section
section
variable {P : Program} {B : Nat} {w0 : Base} {n : Nat}
theorem resK_true : ∀ (rs : List ResultVar) (l : List Res) {k : SV → R} {L : Sl} {F : FM} {t : Array Value} {A : AW}, resOf P n rs = some l → SlR L t → n ≤ t.size → MR F A → resK l L F k = true →
    ∃ s : SV, resAll P t A rs = some s.tl ∧ k s = true ∧ ((s = .nil ∧ s.tl = []) ∨ ∃ a b, s = .cons a b ∧ s.tl = a.up :: b.tl ∧ (b = .nil ∨ ∃ c d, b = .cons c d))
  | [], l, k, L, F, t, A, hl, hL, hn, hM, h => by
    injection hl with hl; subst hl
    exact ⟨.nil, rfl, h, .inl ⟨rfl, rfl⟩⟩
  | r :: rs, l, k, L, F, t, A, hl, hL, hn, hM, h => by
    have tail : ∀ (l' : List Res) (v : Value) (a : SV) (K : SV → R), resOf P n rs = some l' → (∀ r : SV, SV.tl (.cons a r) = a.up :: r.tl) → a.up = v → resOne P t A r = some v → resK l' L F (fun r => K (.cons a r)) = true → K = k →
        ∃ s : SV, resAll P t A (r :: rs) = some s.tl ∧ k s = true ∧ ((s = .nil ∧ s.tl = []) ∨ ∃ a b, s = .cons a b ∧ s.tl = a.up :: b.tl ∧ (b = .nil ∨ ∃ c d, b = .cons c d)) := by
      intro l' v a K h1 h2 h3 h4 h5 h6
      subst h6
      obtain ⟨s, g1, g2, g3⟩ := resK_true rs l' h1 hL hn hM h5
      refine ⟨.cons a s, ?_, g2, .inr ⟨a, s, rfl, h2 s, ?_⟩⟩
      · show (match resOne P t A r, resAll P t A rs with | some v, some l => some (v :: l) | _, _ => none) = _
        rw [h4, g1, h2 s, h3]
      · rcases g3 with ⟨rfl, _⟩ | ⟨c, d, rfl, _, _⟩
        · exact .inl rfl
        · exact .inr ⟨c, d, rfl⟩
    cases r with
    | tmp i =>
      unfold resOf at hl
      cases ha : accT n i with
      | none => rw [ha] at hl; cases hl
      | some a =>
        rw [ha] at hl
        cases hr : resOf P n rs with
        | none => rw [hr] at hl; cases hl
        | some l' =>
          rw [hr] at hl
          injection hl with hl; subst hl
          obtain ⟨h1, h2⟩ := hd1_true (show hd1 (a L) (fun v => resK l' L F fun r => k (.cons v r)) = true from h)
          exact tail l' _ (a L) k hr h2 rfl (by show some (t.getD i undef) = _; rw [accT_ok ha L t hL hn]; rfl) h1 rfl
    | cell d ty =>
      unfold resOf at hl
      cases ha : accT n d with
      | none => rw [ha] at hl; cases hl
      | some a =>
        rw [ha] at hl
        have hacc := accT_ok ha L t hL hn
        cases hg : aggB P ty with
        | none => rw [hg] at hl; cases hl
        | some q =>
          rw [hg] at hl
          cases hr : resOf P n rs with
          | none => rw [hr] at hl; cases q <;> cases hl
          | some l' =>
            rw [hr] at hl
            have one : ∀ {hd : Held} {v : Value}, loadL P A ty (ev t (.tmp d)) = some (hd, v) → resOne P t A (.cell d ty) = some v := by
              intro hd v he
              show (match loadL P A ty (t.getD d undef) with | some (_, v) => some v | none => none) = _
              rw [show t.getD d undef = ev t (.tmp d) from rfl, he]
            cases q with
            | true =>
              injection hl with hl; subst hl
              obtain ⟨b, o, h3, h4⟩ := ptrK_true (show ptrK (a L) _ = true from h)
              obtain ⟨hb, rows, m, esz, e, fam, ro, h5, h6⟩ := blkK_true h4
              obtain ⟨c, hc⟩ := hM.at hb h5
              obtain ⟨r, g1, g2, g3⟩ := subK_true hc.h0 hc.h1 hc.h2 h6
              rw [h3] at hacc
              have hcell : cellsA A b o (sizeB P ty) = some (rowL r (sizeB P ty)) := hc.cells g2 (rowL_len _ _) fun p hp => by
                rw [rowL_get, if_pos hp, (g3 p hp).2]
              exact tail l' _ (.row (sizeB P ty) r) k hr (fun r => rfl) rfl (one (by rw [← hacc]; exact load_all hg hcell (aggB_info hg))) g1 rfl
            | false =>
              injection hl with hl; subst hl
              obtain ⟨b, o, h3, h4⟩ := ptrK_true (show ptrK (a L) _ = true from h)
              obtain ⟨hb, rows, m, esz, e, fam, ro, h5, h6⟩ := blkK_true h4
              obtain ⟨c, hc⟩ := hM.at hb h5
              obtain ⟨h7, h8⟩ := inB_true h6
              rw [fvF_eq, wCell_get h7 hc.h0 hc.h1 hc.h2] at h8
              rw [h3] at hacc
              have hcell : cellsA A b o 1 = some [(cellAt rows esz o).up] := hc.cells (by omega) rfl fun p hp => by
                have : p = 0 := by omega
                subst this; rfl
              exact tail l' _ (.val (cellAt rows esz o)) k hr (fun r => rfl) rfl (one (by rw [← hacc]; exact load_one hg hcell)) h8 rfl
theorem decFn_mk {gl : Nat → Bool} {f : FuncId} {code : CD} {res : List Res} (h : decFn gl P f = .mk code res) : ∃ fn c, P.funcs[f]? = some fn ∧ fn.body = some c ∧ resOf P fn.ntmps fn.results.toList = some res ∧ fn.ntmps ≤ 512 ∧ code = compC gl P fn.ntmps c := by
  unfold decFn at h
  cases hf : P.funcs[f]? with
  | none => rw [hf] at h; cases h
  | some fn =>
    rw [hf] at h
    dsimp only at h
    cases hb : fn.body with
    | none => rw [hb] at h; cases h
    | some c =>
      rw [hb] at h
      dsimp only at h
      cases hr : resOf P fn.ntmps fn.results.toList with
      | none => rw [hr] at h; cases h
      | some r =>
        rw [hr] at h
        dsimp only at h
        cases hq : Nat.ble fn.ntmps 512 with
        | false => rw [hq] at h; cases h
        | true =>
          rw [hq, cond_true] at h
          cases hdf : defersB gl c with
          | true => rw [hdf] at h; cases h
          | false =>
            rw [hdf, cond_false] at h
            injection h with h1 h2
            exact ⟨fn, c, rfl, hb, by rw [hr, h2], Nat.le_of_ble_eq_true hq, h1.symm⟩
theorem decFn_dfr {gl : Nat → Bool} {f : FuncId} {code : CE} {res : List Res} (h : decFn gl P f = .dfr code res) : ∃ fn c, P.funcs[f]? = some fn ∧ fn.body = some c ∧ resOf P fn.ntmps fn.results.toList = some res ∧ fn.ntmps ≤ 512 ∧ code = compE gl P fn.ntmps c := by
  unfold decFn at h
  cases hf : P.funcs[f]? with
  | none => rw [hf] at h; cases h
  | some fn =>
    rw [hf] at h
    dsimp only at h
    cases hb : fn.body with
    | none => rw [hb] at h; cases h
    | some c =>
      rw [hb] at h
      dsimp only at h
      cases hr : resOf P fn.ntmps fn.results.toList with
      | none => rw [hr] at h; cases h
      | some r =>
        rw [hr] at h
        dsimp only at h
        cases hq : Nat.ble fn.ntmps 512 with
        | false => rw [hq] at h; cases h
        | true =>
          rw [hq, cond_true] at h
          cases hdf : defersB gl c with
          | false => rw [hdf] at h; cases h
          | true =>
            rw [hdf, cond_true] at h
            injection h with h1 h2
            exact ⟨fn, c, rfl, hb, by rw [hr, h2], Nat.le_of_ble_eq_true hq, h1.symm⟩
/-- where yield's arguments go -/
def setPL (l : List (Nat × Value)) (t : Array Value) : Array Value := l.foldl (fun t q => t.setIfInBounds q.1 q.2) t
theorem setPs_true (h5 : n ≤ 512) {S : Sl} {args : Array Value} (hS : ArgR S args) : ∀ (ps : List Nat) (j : Nat) {L : Sl} {t : Array Value} {k : Sl → R}, SlR L t → n ≤ t.size → j + ps.length = args.size → setPs n S ps j L k = true →
    ∃ L', SlR L' (setPL (ps.zip (args.toList.drop j)) t) ∧ n ≤ (setPL (ps.zip (args.toList.drop j)) t).size ∧ k L' = true
  | [], j, L, t, k, hL, hn, _, h => ⟨L, hL, hn, h⟩
  | p :: ps, j, L, t, k, hL, hn, hj, h => by
    have hj : j + (ps.length + 1) = args.size := hj
    have h : ifK (Nat.blt p n) (ifK (Nat.blt j 512) (svF ((w512 SV j).get S) fun v => (w512 SV p).put v L fun L => num (Nat.succ j) fun j => setPs n S ps j L k) bad) bad = true := h
    obtain ⟨q1, h1⟩ := ifK_true h
    obtain ⟨q2, h2⟩ := ifK_true h1
    have hp := blt_lt q1
    have hlt : j < args.size := by omega
    rw [svF_eq, w512_get (blt_lt q2), w512_put (by omega), num_eq] at h2
    have hg := hS.get j hlt
    obtain ⟨L', g1, g2, g3⟩ := setPs_true h5 hS ps (j + 1) (hL.put (d := p) (by omega) (v := SV.up (Ls.get j S)) rfl) (by rw [Array.size_setIfInBounds]; exact hn) (by omega) h2
    have hdrop : args.toList.drop j = SV.up (Ls.get j S) :: args.toList.drop (j + 1) := by
      rw [List.drop_eq_getElem_cons (by rw [Array.length_toList]; exact hlt)]
      congr 1
      rw [Array.getElem?_eq_getElem hlt] at hg
      injection hg with hg
    rw [hdrop]
    exact ⟨L', g1, g2, g3⟩
theorem setPL_eq (ps args t : Array _) : setPL (ps.toList.zip (args.toList.drop 0)) t = (ps.zip args).foldl (fun tmps (p, a) => tmps.setIfInBounds p a) t := by
  rw [List.drop_zero, ← Array.toList_zip, ← Array.foldl_toList]
  rfl
/-- a round that the evaluator brings to its end -/
theorem round_true (G : Sim.Good P) {fuel : Nat} {rec : Rc} (hR : ∀ l, RcOk P B (w0.at (some l)) rec) {b : Nat} {S : Sl} {F : FM} {A : AW} {args : Array Value} {k : SV → FM → R} {lp : Loop} (hS : ArgR S args) (hM : MR F A) (hA : A.heap.get b = some ⟨.loop lp, false, false⟩) (hsz : args.size = lp.params.size) (h : roundC (compC w0.gl P) (runC fuel rec) b S F k = true) :
    RoundW P B w0 b ((lp.params.zip args).foldl (fun tmps (p, a) => tmps.setIfInBounds p a) lp.tmps) lp.assign lp.body A (Post k) := by
  unfold roundC at h
  obtain ⟨hb, L, n, ps, a, bd, st, pend, h1, h2⟩ := lpK_true h
  obtain ⟨h3, h4⟩ := ifK_true h2
  obtain ⟨h5, h6⟩ := ifK_true h4
  obtain ⟨h7, h8⟩ := ifK_true h6
  obtain ⟨h9, h10⟩ := ifK_true h8
  obtain ⟨tmps, m1, m2, m3⟩ := hM.loop hb h1
  rw [m1] at hA
  injection hA with hA
  injection hA with hA
  injection hA with hA
  subst hA
  have hn := Nat.le_of_ble_eq_true h5
  obtain ⟨L1, g1, g2, g3⟩ := setPs_true hn hS ps 0 m2 m3 (by rw [Nat.zero_add]; exact hsz.symm) h10
  have he := setPL_eq (⟨ps⟩ : Array Nat) args tmps
  rw [he] at g1 g2
  refine RoundW.of fun l => CodeS_mono (code_true (w0 := w0.at (some l)) G fuel (hR l) a (.inr h7) g1 g2 hM g3) ?_
  rintro e t1 A1 ⟨S1, F1, r1, r2, r3, r4⟩
  cases e with
  | exit id => exact not_bad r4
  | ret => exact not_bad r4
  | normal =>
    refine ⟨rfl, ?_⟩
    obtain ⟨_, L2, n2, ps2, a2, b2, st2, pend2, s1, s2⟩ := lpK_true r4
    obtain ⟨s3, s4⟩ := ifK_true s2
    obtain ⟨tmps2, s5, s6, s7⟩ := r3.loop hb s1
    have s8 := putF_true hb s4
    obtain rfl := beq_eq s3
    refine ⟨_, s5, rfl, ?_⟩
    have hM2 := r3.putA hb (BlkR.loop (ps := ps2) (a := a2) (b := b2) (st := 1) (pend := pend2) s6 s7)
    refine CodeS_mono (code_true (w0 := w0.at (some l)) G fuel (hR l) bd (.inr h9) r1 r2 hM2 s8) ?_
    rintro e t3 A3 ⟨S3, F3, u1, u2, u3, u4⟩
    obtain ⟨_, L4, n4, ps4, a4, b4, st4, pend4, v1, v2⟩ := lpK_true u4
    obtain ⟨tmps4, v5, v6, v7⟩ := u3.loop hb v1
    refine ⟨_, v5, ?_⟩
    cases e with
    | normal => exact ⟨.val (.bool true), _, rfl, u3.putA hb (BlkR.loop (ps := ps4) (a := a4) (b := b4) (st := 0) (pend := .normal) v6 v7), putF_true hb v2⟩
    | ret => exact ⟨.val (.bool false), _, rfl, u3.putA hb (BlkR.loop (ps := ps4) (a := a4) (b := b4) (st := 2) (pend := .ret) v6 v7), putF_true hb v2⟩
    | exit id => exact ⟨.val (.bool false), _, rfl, u3.putA hb (BlkR.loop (ps := ps4) (a := a4) (b := b4) (st := 2) (pend := .exit id) v6 v7), putF_true hb v2⟩
/-- what a call's results are -/
theorem res_true {fn : Func} {res : List Res} (hr : resOf P fn.ntmps fn.results.toList = some res) {S1 : Sl} {F1 : FM} {t1 : Array Value} {A1 : AW} (g1 : SlR S1 t1) (g2 : fn.ntmps ≤ t1.size) (g3 : MR F1 A1) {k : SV → FM → R} (hq : resK res S1 F1 (fun l => oneRes l fun v => k v F1) = true) : ∃ v, resA P fn t1 A1 = some v ∧ Post k v A1 := by
  obtain ⟨s, q1, q2, q3⟩ := resK_true _ _ hr g1 g2 g3 hq
  unfold resA
  rw [q1]
  rcases q3 with ⟨rfl, q4⟩ | ⟨a, b, rfl, q4, q5⟩
  · exact ⟨_, rfl, .nil, F1, rfl, g3, q2⟩
  · rcases q5 with rfl | ⟨c, d, rfl⟩
    · rw [q4]
      exact ⟨_, rfl, a, F1, rfl, g3, q2⟩
    · have q6 : ∃ x y, SV.tl (.cons c d) = x :: y := by cases c <;> exact ⟨_, _, rfl⟩
      obtain ⟨x, y, q6⟩ := q6
      rw [q4, q6]
      refine ⟨_, rfl, .cons a (.cons c d), F1, ?_, g3, q2⟩
      show Value.tuple ⟨SV.tl (.cons a (.cons c d))⟩ = _
      rw [q4, q6]
theorem argR_slots {S : Sl} {args : Array Value} (hS : ArgR S args) {m : Nat} (h5 : m ≤ 512) : SlR S (args ++ Array.replicate (m - args.size) undef) ∧ m ≤ (args ++ Array.replicate (m - args.size) undef).size := by
  have hsz : (args ++ Array.replicate (m - args.size) undef).size = args.size + (m - args.size) := by simp
  have hargs := hS.size
  refine ⟨⟨by omega, fun d hd => ?_⟩, by omega⟩
  rw [hsz] at hd
  by_cases hq : d < args.size
  · rw [Array.getElem?_append_left hq]; exact hS.get d hq
  · rw [Array.getElem?_append_right (by omega), Array.getElem?_replicate, if_pos (by omega), hS.rest d (by omega) (by omega)]
theorem mk_true (G : Sim.Good P) {fuel : Nat} {rec : Rc} (ih : RcOk P B (w0.at none) rec) {fn : Func} {c : Code} {res : List Res} (hr : resOf P fn.ntmps fn.results.toList = some res) (h5 : fn.ntmps ≤ 512) {S : Sl} {F : FM} {A : AW} {args : Array Value} {k : SV → FM → R} (hS : ArgR S args) (hM : MR F A)
    (h : runC fuel rec (compC w0.gl P fn.ntmps c) S F (endK res k) = true) : CodeS P B (w0.at none) c (args ++ Array.replicate (fn.ntmps - args.size) undef) A fun e t1 A1 => (e = .normal ∨ e = .ret) ∧ ∃ v, resA P fn t1 A1 = some v ∧ Post k v A1 := by
  obtain ⟨hL, hn⟩ := argR_slots hS h5
  refine CodeS_mono (code_true (w0 := w0.at none) G fuel ih c (.inl rfl) hL hn hM h) ?_
  rintro e t1 A1 ⟨S1, F1, g1, g2, g3, g4⟩
  cases e with
  | normal => exact ⟨.inl rfl, res_true hr g1 g2 g3 g4⟩
  | ret => exact ⟨.inr rfl, res_true hr g1 g2 g3 g4⟩
  | exit i => exact not_bad g4
/-- the calls that wait -/
def DRel : List (FuncId × Sl) → List DC → Prop
  | [], [] => True
  | x :: l, d :: D => (x.1 = d.g ∧ x.1 < yB ∧ ArgR x.2 d.args) ∧ DRel l D
  | _, _ => False
theorem DRel.app : ∀ {l l' : List (FuncId × Sl)} {D D' : List DC}, DRel l D → DRel l' D' → DRel (l ++ l') (D ++ D')
  | [], _, [], _, _, h' => h'
  | _ :: _, _, _ :: _, _, h, h' => ⟨h.1, DRel.app h.2 h'⟩
  | [], _, _ :: _, _, h, _ => h.elim
  | _ :: _, _, [], _, h, _ => h.elim
theorem opsW_mono {ops : Array Oper} {K K' : Array Value → AW → Prop} (hK : ∀ t A, K t A → K' t A) : ∀ (l : List Nat) (t : Array Value) (A : AW), opsW P B w0 ops K l t A → opsW P B w0 ops K' l t A
  | [], t, A, h => hK t A h
  | i :: l, t, A, h => by
    unfold opsW at h ⊢
    cases ho : ops[i]? with
    | none => rw [ho] at h; exact opsW_mono hK l t A h
    | some o =>
      rw [ho] at h
      dsimp only at h ⊢
      cases hw : Region.wanted o (yielded ops t) with
      | false => rw [hw, cond_false] at h; rw [cond_false]; exact opsW_mono hK l _ _ h
      | true =>
        rw [hw, cond_true] at h
        rw [cond_true]
        cases hl : loudB o with
        | true =>
          rw [hl, cond_true] at h
          rw [cond_true]
          exact stepW_mono h fun v A' hv => opsW_mono hK l _ _ hv
        | false =>
          rw [hl, cond_false] at h
          rw [cond_false]
          exact quietW_mono h fun v A' hv => opsW_mono hK l _ _ hv
theorem lastD_spec {gl : Nat → Bool} {ops : Array Oper} {f : Operand} {xs : List Operand} (h : lastD gl ops = some (f, xs)) : ∃ m o args ts, ops.size = m + 1 ∧ ops[m]? = some o ∧ o.op = .defer ⟨.value f, args, ts⟩ ∧ o.guard = none ∧ o.dst = none ∧ okOp o = true ∧ glOp gl o = true ∧ xs = args.toList := by
  unfold lastD at h
  cases ho : ops[ops.size - 1]? with
  | none => rw [ho] at h; cases h
  | some o =>
    rw [ho] at h
    dsimp only at h
    have hlt : ops.size - 1 < ops.size := (Array.getElem?_eq_some_iff.1 ho).1
    split at h
    rotate_left
    · cases h
    rename_i f' args ts hop
    cases hq : (o.guard.isNone && o.dst.isNone && okOp o && glOp gl o) with
    | false => rw [hq] at h; cases h
    | true =>
      rw [hq, cond_true] at h
      injection h with h
      injection h with h1 h2
      subst h1 h2
      simp only [Bool.and_eq_true, Option.isNone_iff_eq_none] at hq
      exact ⟨ops.size - 1, o, args, ts, by omega, ho, hop, hq.1.1.1, hq.1.1.2, hq.1.2, hq.2, rfl⟩
theorem codeE_true (G : Sim.Good P) (fuel : Nat) {rec : Rc} (hR : RcOk P B w0 rec) (hrd : w0.rd = none) : ∀ (c : Code) {K : Ke} {L : Sl} {F : FM} {t : Array Value} {A : AW} {D0 : List (FuncId × Sl)}, SlR L t → n ≤ t.size → MR F A → runE P fuel rec (compE w0.gl P n c) L F D0 K = true →
    CodeD P B w0 c t A fun e t1 A1 D => ∃ S F1 l, SlR S t1 ∧ n ≤ t1.size ∧ MR F1 A1 ∧ DRel l D ∧ K e S F1 (l ++ D0) = true := by
  have plain : ∀ (c : Code) {K : Ke} {L : Sl} {F : FM} {t : Array Value} {A : AW} {D0 : List (FuncId × Sl)}, SlR L t → n ≤ t.size → MR F A → runC fuel rec (compC w0.gl P n c) L F (fun e M F => K e M F D0) = true →
      CodeD P B w0 c t A fun e t1 A1 D => ∃ S F1 l, SlR S t1 ∧ n ≤ t1.size ∧ MR F1 A1 ∧ DRel l D ∧ K e S F1 (l ++ D0) = true := by
    intro c K L F t A D0 hL hn hM h
    refine CodeD.of (CodeS_mono (code_true G fuel hR c (.inl hrd) hL hn hM h) ?_)
    rintro e t1 A1 ⟨S, F1, g1, g2, g3, g4⟩
    exact ⟨S, F1, [], g1, g2, g3, trivial, g4⟩
  intro c
  induction c with
  | seq a b iha ihb =>
    intro K L F t A D0 hL hn hM h
    have h1 : runE P fuel rec (compE w0.gl P n a) L F D0 (fun e M F D => AE.rec (motive := fun _ => R) (pass (runE P fuel rec (compE w0.gl P n b) M F D K)) (fun i => K (.exit i) M F D) (K .ret M F D) e) = true := h
    refine CodeD.seq (CodeD.mono (iha hL hn hM h1) ?_)
    rintro e t1 A1 D ⟨S, F1, l, g1, g2, g3, g4, g5⟩
    cases e with
    | normal =>
      refine CodeD.mono (ihb g1 g2 g3 g5) ?_
      rintro e2 t2 A2 D2 ⟨S2, F2, l2, p1, p2, p3, p4, p5⟩
      exact ⟨S2, F2, l2 ++ l, p1, p2, p3, p4.app g4, by rw [List.append_assoc]; exact p5⟩
    | exit id => exact ⟨S, F1, l, g1, g2, g3, g4, g5⟩
    | ret => exact ⟨S, F1, l, g1, g2, g3, g4, g5⟩
  | region id ops draw =>
    intro K L F t A D0 hL hn hM h
    unfold compE at h
    cases hq : (lastD w0.gl ops).isSome with
    | false => rw [hq, cond_false] at h; exact plain _ hL hn hM h
    | true =>
      rw [hq, cond_true] at h
      cases draw with
      | true => exact not_bad h
      | false =>
        rw [cond_false] at h
        unfold dfrOf at h
        split at h
        rotate_left
        · exact not_bad h
        rename_i f xs hlast
        split at h
        rotate_left
        · exact not_bad h
        rename_i a s ha hs
        obtain ⟨m, o, args, ts, hm, ho, hop, hgd, hdst, hok, hgl, rfl⟩ := lastD_spec hlast
        rw [hm, Nat.add_sub_cancel] at h
        have h1 : runS ((List.range m).map fun i => .mk (stepOf w0.gl P n ops i)) rec L F (fun M F => valK (a M) fun v => callV v (fun g fs cs => ifK (hasB P g) (argsL fs 0 slots0 fun i S => s M i S fun i S => argsL cs i S fun _ S => K .normal M F ((g, S) :: D0)) bad) (fun _ => bad)) = true := h
        refine CodeD.defer G hrd hm ho hop hgd hdst hok hgl fun Γ M => opsW_mono ?_ _ _ _ (ops_true (hR.but Γ M) _ hL hn hM h1)
        rintro t1 A1 ⟨S1, F1, g1, g2, g3, g4⟩
        obtain ⟨v, h3, h4⟩ := valK_true g4
        rcases callV_true h4 with ⟨g, fs, cs, rfl, h4⟩ | ⟨b, fs, cs, rfl, h4⟩
        rotate_left
        · exact not_bad h4
        obtain ⟨hb, h5⟩ := ifK_true h4
        obtain ⟨f1, h6, q1, r1⟩ := argsL_ok _ _ _ _ h5
        obtain ⟨f2, h7, q2, r2⟩ := ahOf_ok _ _ hs S1 t1 _ _ _ g1 g2 h6
        obtain ⟨f3, h8, q3, r3⟩ := argsL_ok _ _ _ _ h7
        have e1 : ev t1 f = .func (.func g) ⟨fs⟩ ⟨cs⟩ := (accOf_ok ha S1 t1 g1 g2).symm.trans (by rw [h3]; rfl)
        have hl : Laid (fs ++ args.toList.map (ev t1) ++ cs) 0 slots0 f3 := (q1.trans q2).trans (by rw [List.length_append, List.length_map]; rw [← Nat.add_assoc]; exact q3)
        obtain ⟨fn, k1, k2⟩ := hasB_spec hb
        refine ⟨g, ⟨fs⟩, ⟨cs⟩, fn, e1, k1, k2, S1, F1, [(g, f3)], g1, g2, g3, ⟨⟨rfl, hasB_lt hb, hl.arg ?_ ?_⟩, trivial⟩, h8⟩
        · simp only [List.length_append, List.length_map]
          have b1 : fs.length ≤ 512 := by
            rcases r1 with r | r
            · rw [r]; simp
            · omega
          have b2 : fs.length + args.toList.length ≤ 512 := by
            rcases r2 with r | r
            · rw [r]; simp only [List.length_nil]; omega
            · omega
          rcases r3 with r | r
          · rw [r]; simp only [List.length_nil]; omega
          · omega
        · simp [evs]
  | _ => intro K L F t A D0 hL hn hM h; exact plain _ hL hn hM h
theorem LeaveD_mono {K K' : AW → Prop} (hK : ∀ A, K A → K' A) : ∀ (D : List DC) (A : AW), LeaveD P B w0 D A K → LeaveD P B w0 D A K'
  | [], A, h => hK A h
  | d :: D, A, h => by
    intro Γ M ρ w args' q1 q2
    refine (h Γ M ρ w args' q1 q2).mono ?_
    rintro e u' w' ⟨rfl, ρ', v, v', A', p1, p2, p5⟩
    exact ⟨rfl, ρ', v, v', A', p1, LeaveD_mono hK D A' p2, p5⟩
theorem leaveE_true {rec : Rc} (hR : RcOk P B w0 rec) : ∀ (l : List (FuncId × Sl)) (D : List DC) {F : FM} {A : AW} {k : FM → R}, DRel l D → MR F A → leaveE rec l F k = true → LeaveD P B w0 D A fun A2 => ∃ F2, MR F2 A2 ∧ k F2 = true
  | [], [], F, A, k, _, hM, h => ⟨F, hM, h⟩
  | [], _ :: _, F, A, k, hd, _, _ => hd.elim
  | _ :: _, [], F, A, k, hd, _, _ => hd.elim
  | (g, S) :: l, d :: D, F, A, k, ⟨⟨h1, h2, h3⟩, hr⟩, hM, h => by
    have h : rec (dB + g) S F (fun _ F => leaveE rec l F k) = true := h
    have hc := hR.2.2.2 g S F A d.args _ h2 h3 hM h
    have h1 : g = d.g := h1
    rw [h1] at hc
    intro Γ M ρ w args' q1 q2
    refine (hc Γ M ρ w args' q1 q2).mono ?_
    rintro e u' w' ⟨rfl, ρ', v, v', A', p1, ⟨sv, F', p2, p3, p4⟩, p5⟩
    exact ⟨rfl, ρ', v, v', A', p1, leaveE_true hR l D hr p3 p4, p5⟩
/-- a body, or a round, that the evaluator brings to its end -/
theorem body_ok (G : Sim.Good P) (hBld : BldOk P) (fuel : Nat) {rec : Rc} (w0 : Base) (ih : ∀ r, RcOk P B (w0.at r) rec) : RcOk P B w0 (bodyK w0.gl P fuel rec) := by
  refine ⟨hBld, fun f S F A args k hlt hS hM h => ?_, fun b S F A args k lp hlt hS hM hA hsz h => ?_, fun f S F A args k hlt hS hM h => ?_⟩
  · have h0 : Bool.rec (motive := fun _ => R)
        (FnD.rec (motive := fun _ => R) (fun code res => pass (runC fuel rec code S F (endK res k))) (fun code res => pass (runE P fuel rec code S F [] (endE rec res k))) Fast.bad (decFn w0.gl P f))
        (Bool.rec (motive := fun _ => R) (num (Nat.sub f yB) fun b => pass (roundC (compC w0.gl P) (runC fuel rec) b S F k))
          (num (Nat.sub f dB) fun g => FnD.rec (motive := fun _ => R) (fun code res => pass (runC fuel rec code S F (endK res k))) (fun _ _ => Fast.bad) Fast.bad (decFn w0.gl P g)) (Nat.ble dB f)) (Nat.ble yB f) = true := h
    have hq : Nat.ble yB f = false := by
      cases hq : Nat.ble yB f with
      | false => rfl
      | true => exact absurd (Nat.le_of_ble_eq_true hq) (Nat.not_le.2 hlt)
    rw [hq] at h0
    have h' : FnD.rec (motive := fun _ => R) (fun code res => pass (runC fuel rec code S F (endK res k))) (fun code res => pass (runE P fuel rec code S F [] (endE rec res k))) Fast.bad (decFn w0.gl P f) = true := h0
    cases hd : decFn w0.gl P f with
    | bad =>
      rw [hd] at h'
      exact not_bad h'
    | mk code res =>
      rw [hd] at h'
      obtain ⟨fn, c, hf, hb, hr, h5, rfl⟩ := decFn_mk hd
      exact CallS.of G hf hb (mk_true G (ih none) hr h5 hS hM h')
    | dfr code res =>
      rw [hd] at h'
      obtain ⟨fn, c, hf, hb, hr, h5, rfl⟩ := decFn_dfr hd
      obtain ⟨hL, hn⟩ := argR_slots hS h5
      refine CallS.ofD G hf hb (CodeD.mono (codeE_true (w0 := w0.at none) G fuel (ih none) rfl c hL hn hM h') ?_)
      rintro e t1 A1 D ⟨S1, F1, l, g1, g2, g3, g4, g5⟩
      rw [List.append_nil] at g5
      have fin : leaveE rec l F1 (fun F => resK res S1 F fun l => oneRes l fun v => k v F) = true → LeaveD P B (w0.at none) D A1 fun A2 => ∃ v, resA P fn t1 A2 = some v ∧ Post k v A2 := by
        intro hq
        refine LeaveD_mono ?_ D A1 (leaveE_true (ih none) l D g4 g3 hq)
        rintro A2 ⟨F2, p1, p2⟩
        exact res_true hr g1 g2 p1 p2
      cases e with
      | normal => exact ⟨.inl rfl, fin g5⟩
      | ret => exact ⟨.inr rfl, fin g5⟩
      | exit i => exact not_bad g5
  · generalize hy : yB + b = y at h
    have hle : yB ≤ y := by rw [← hy]; exact Nat.le_add_right yB b
    have hyb : Nat.sub y yB = b := by rw [← hy]; exact Nat.add_sub_cancel_left yB b
    have hnd : Nat.ble dB y = false := by
      cases hq : Nat.ble dB y with
      | false => rfl
      | true =>
        have : 2000000 ≤ y := Nat.le_of_ble_eq_true hq
        have : 1000000 + b = y := hy
        omega
    have h' : Bool.rec (motive := fun _ => R)
        (FnD.rec (motive := fun _ => R) (fun code res => pass (runC fuel rec code S F (endK res k))) (fun code res => pass (runE P fuel rec code S F [] (endE rec res k))) Fast.bad (decFn w0.gl P y))
        (Bool.rec (motive := fun _ => R) (num (Nat.sub y yB) fun b => pass (roundC (compC w0.gl P) (runC fuel rec) b S F k))
          (num (Nat.sub y dB) fun g => FnD.rec (motive := fun _ => R) (fun code res => pass (runC fuel rec code S F (endK res k))) (fun _ _ => Fast.bad) Fast.bad (decFn w0.gl P g)) (Nat.ble dB y)) (Nat.ble yB y) = true := h
    rw [Nat.ble_eq_true_of_le hle, hnd, hyb] at h'
    have h2 : roundC (compC w0.gl P) (runC fuel rec) b S F k = true := h'
    exact round_true G (fun l => ih (some l)) hS hM hA hsz h2
  · generalize hy : dB + f = y at h
    have hle : yB ≤ y := by rw [← hy]; exact Nat.le_trans (by decide) (Nat.le_add_right dB f)
    have hle2 : dB ≤ y := by rw [← hy]; exact Nat.le_add_right dB f
    have hyb : Nat.sub y dB = f := by rw [← hy]; exact Nat.add_sub_cancel_left dB f
    have h' : Bool.rec (motive := fun _ => R)
        (FnD.rec (motive := fun _ => R) (fun code res => pass (runC fuel rec code S F (endK res k))) (fun code res => pass (runE P fuel rec code S F [] (endE rec res k))) Fast.bad (decFn w0.gl P y))
        (Bool.rec (motive := fun _ => R) (num (Nat.sub y yB) fun b => pass (roundC (compC w0.gl P) (runC fuel rec) b S F k))
          (num (Nat.sub y dB) fun g => FnD.rec (motive := fun _ => R) (fun code res => pass (runC fuel rec code S F (endK res k))) (fun _ _ => Fast.bad) Fast.bad (decFn w0.gl P g)) (Nat.ble dB y)) (Nat.ble yB y) = true := h
    rw [Nat.ble_eq_true_of_le hle, Nat.ble_eq_true_of_le hle2, hyb] at h'
    have h2 : FnD.rec (motive := fun _ => R) (fun code res => pass (runC fuel rec code S F (endK res k))) (fun _ _ => Fast.bad) Fast.bad (decFn w0.gl P f) = true := h'
    cases hd : decFn w0.gl P f with
    | bad => rw [hd] at h2; exact not_bad h2
    | dfr code res => rw [hd] at h2; exact not_bad h2
    | mk code res =>
      rw [hd] at h2
      obtain ⟨fn, c, hf, hb, hr, h5, rfl⟩ := decFn_mk hd
      exact CallD.of G hf hb (mk_true G (ih none) hr h5 hS hM h2)
/-- a call that the evaluator brings to its end -/
theorem callK_ok (G : Sim.Good P) (hBld : BldOk P) (fuel : Nat) : ∀ (m : Nat) (w0 : Base), RcOk P B w0 (callK w0.gl P fuel m) := by
  intro m
  induction m with
  | zero => exact fun w0 => ⟨hBld, fun f S F A args k _ _ _ h => not_bad h, fun b S F A args k lp _ _ _ _ _ h => not_bad h, fun f S F A args k _ _ _ h => not_bad h⟩
  | succ m ih => exact fun w0 => body_ok G hBld fuel w0 fun r => ih (w0.at r)
theorem emptyF_ok : MR emptyF ⟨.leaf, 0⟩ := by
  refine ⟨rfl, fun b hb => ?_⟩
  have : Lh.get b heap0 = .no := by
    show (L4096 FO).get (b % 4096) ((L8 (F4096 FO)).get (b / 4096) (r8 (r8 (r8 (r8 (r8 .no)))))) = _
    rw [r8_get]
    show (L512 FO).get (b % 4096 % 512) ((L8 (F512 FO)).get (b % 4096 / 512) (r8 (r8 (r8 (r8 .no))))) = _
    rw [r8_get]
    exact r8_at _ _ (Nat.mod_lt _ (by decide))
  show BlkR (Lh.get b heap0) _
  rw [this]
  exact .no _
theorem slots0_arg : ArgR slots0 #[] := ⟨by decide, fun d hd => absurd hd (Nat.not_lt_zero d), fun d _ hd => by
  show SV.up ((L512 SV).get d (r8 (r8 (r8 u0)))) = undef
  rw [r8_at _ _ hd]
  rfl⟩
/-- THE WHOLE: what says true from nothing is true in every world -/
theorem says (G : Sim.Good P) (hBld : BldOk P) {fuel m : Nat} {f : FuncId} (hf : Nat.blt f yB = true) (h : saysTrue P fuel m f = true) (w : World) : Calls P f #[] w fun e w' => e = .returned (.bool true) ∧ Below w.heap.size w w' := by
  refine whole (args := #[]) (v := .bool true) ?_ (by simp) rfl
  have := (callK_ok (B := w.heap.size) G hBld fuel m ⟨w, fun _ _ => False, fun _ => false, none, []⟩).2.1 f slots0 emptyF ⟨.leaf, 0⟩ #[] _ (blt_lt hf) slots0_arg emptyF_ok h
  intro Γ M ρ w1 args' h1 h2
  refine (this Γ M ρ w1 args' h1 h2).mono ?_
  rintro e w' ⟨ρ', v, v', A', g1, ⟨sv, F', q1, q2, q3⟩, g3, g4, g5⟩
  refine ⟨ρ', v, v', A', g1, ?_, g3, g4, g5⟩
  obtain ⟨b, rfl, q4⟩ := boolK_true q3
  rw [← q1, q4]
  rfl
end
end
end Go.Proofs.YtnneooidkbhbeaaGreatDoor.Fast
