/- A verified evaluator, part R: a drawn region ends as its plan does, whatever the order. Of no program. -/
import Derived.Test.YtnneooidkbhbeaaGreatDoorSimQ
set_option linter.unusedVariables false
set_option linter.unusedSimpArgs false
namespace Go.Proofs.YtnneooidkbhbeaaGreatDoor.Sim
open Go Go.RowKit

section
variable {P : Program} {B : Nat} {w0 : Base} {ops : Array Oper} {anc : Nat → Nat}
theorem quietA_ghost_mem {t : Operand → Value} {A : AW} {o : Oper} {c : Array Value} {e : TypeId} {n : Option (Nat × Nat)} (h : quietA P t A o = some (.ghost c e n)) : memK o = false := by
  cases hm : memK o with
  | false => rfl
  | true =>
    unfold quietA at h
    cases hk : okOp o with
    | false => rw [hk] at h; cases h
    | true =>
      rw [hk, cond_true] at h
      have hg : ghostA P t o = none := by
        unfold ghostA
        unfold memK at hm
        split at hm
        · rename_i he; rw [he]
        · rename_i he; rw [he]
        · rename_i he; rw [he]
        · cases hm
      rw [hg] at h
      cases hc : cls t o with
      | pure => rw [hc] at h; dsimp only at h; cases hx : opQ P t o <;> rw [hx] at h <;> cases h
      | mem => rw [hc] at h; dsimp only at h; cases hx : opM P t A o <;> rw [hx] at h <;> cases h
      | ghost => rw [hc] at h; cases h
theorem ancOf_spec {k : Nat} : ∀ {l : List Edge}, (ancOf anc l).testBit k = true → ∃ e ∈ l, Region.binds .any e = true ∧ (e.on = k ∨ (anc e.on).testBit k = true)
  | [], h => by simp [ancOf] at h
  | e :: l, h => by
    simp only [ancOf] at h
    cases hb : Region.binds .any e with
    | false =>
      rw [hb, cond_false] at h
      obtain ⟨x, h1, h2⟩ := ancOf_spec h
      exact ⟨x, List.mem_cons_of_mem _ h1, h2⟩
    | true =>
      rw [hb, cond_true, Nat.testBit_or, testBit_or_pow] at h
      simp only [Bool.or_eq_true, decide_eq_true_eq] at h
      rcases h with (h | h) | h
      · obtain ⟨x, h1, h2⟩ := ancOf_spec h
        exact ⟨x, List.mem_cons_of_mem _ h1, h2⟩
      · exact ⟨e, List.mem_cons_self, hb, .inl h⟩
      · exact ⟨e, List.mem_cons_self, hb, .inr h⟩
theorem ancOk_spec (h : ancOk ops anc = true) {i : Nat} {o : Oper} (ho : ops[i]? = some o) : anc i = ancOf anc o.after.toList ∧ ∀ e ∈ o.after, Region.binds .any e = true → e.on < i := by
  unfold ancOk at h
  have := all_range h (lt_of_get ho)
  rw [ho] at this
  simp only [Bool.and_eq_true] at this
  refine ⟨Tr.beq_iff.1 this.1, fun e he hb => ?_⟩
  have h2 := List.all_eq_true.1 this.2 e (Array.mem_toList_iff.2 he)
  rw [hb] at h2
  simp only [Bool.not_true, Bool.false_or] at h2
  exact Nat.le_of_ble_eq_true h2
theorem anc_listed (hanc : ancOk ops anc = true) {listed : Array Bool} (hclo : ∀ k o, listed.getD k false = true → ops[k]? = some o → ∀ e ∈ o.after, Region.binds .any e = true → listed.getD e.on false = true) (k : Nat) :
    ∀ (i : Nat) (o : Oper), ops[i]? = some o → (∀ e ∈ o.after, Region.binds .any e = true → listed.getD e.on false = true) → (anc i).testBit k = true → listed.getD k false = true := by
  intro i
  induction i using Nat.strongRecOn with
  | ind i ih =>
    intro o ho hdep ht
    obtain ⟨h1, h2⟩ := ancOk_spec hanc ho
    rw [h1] at ht
    obtain ⟨e, he, hb, hx⟩ := ancOf_spec ht
    have he' : e ∈ o.after := Array.mem_toList_iff.1 he
    rcases hx with hx | hx
    · rw [← hx]; exact hdep e he' hb
    · have hlt := h2 e he' hb
      have hlt2 : e.on < ops.size := Nat.lt_trans hlt (lt_of_get ho)
      exact ih e.on hlt _ (Array.getElem?_eq_getElem hlt2) (fun e2 h3 h4 => hclo e.on _ (hdep e he' hb) (Array.getElem?_eq_getElem hlt2) e2 h3 h4) hx
theorem all_listed (hanc : ancOk ops anc = true) {listed : Array Bool} (hsz : listed.size = ops.size) (hr : Region.ready .any ops listed = []) : ∀ (k : Nat), k < ops.size → listed.getD k false = true := by
  intro k
  induction k using Nat.strongRecOn with
  | ind k ih =>
    intro hk
    cases hl : listed.getD k false with
    | true => rfl
    | false =>
      have hin : k ∈ Region.ready .any ops listed := by
        rw [mem_ready]
        refine ⟨?_, _, Array.getElem?_eq_getElem hk, fun e he hb => ?_⟩
        · rw [Array.getD_eq_getD_getElem?, Array.getElem?_eq_getElem (hsz ▸ hk)] at hl ⊢
          exact hl
        · obtain ⟨_, h2⟩ := ancOk_spec hanc (Array.getElem?_eq_getElem hk)
          have := h2 e he hb
          exact ih e.on this (Nat.lt_trans this hk)
      rw [hr] at hin
      cases hin
theorem depsB_spec {o : Oper} {E : Nat} (h : depsB o E = true) : ∀ e ∈ o.after, Region.binds .any e = true → E.testBit e.on = true := by
  intro e he hb
  have := List.all_eq_true.1 h e (Array.mem_toList_iff.2 he)
  rw [hb] at this
  simpa using this
/-- a loud operation that the world does -/
theorem Inv.loud {E : Nat} {gh : Nat → Option Nat} {listed : Array Bool} {ρ : Ren} {A : AW} {w : World} {t t' : Array Value} (h : Inv P B w0 ops anc E gh listed ρ A w t t') {i : Nat} {o : Oper} (ho : ops[i]? = some o) (hnE : E.testBit i = false)
    (hafter : ∀ e ∈ o.after, Region.binds .any e = true → listed.getD e.on false = true) {ρ' : Ren} {A' : AW} {w' : World} (hle : ρ.le ρ') (hsr : SR P B w0 ρ' A' w') {v v' : Value} (hv : VR ρ' v v')
    (hp : ∀ k q, ops[k]? = some q → E.testBit k = true → listed.getD k false = false → Pend P w0.gl ops gh A' (putA t o.dst v) k q)
    (hgn : ∀ k b, E.testBit k = true → listed.getD k false = false → gh k = some b → ρ' b = none ∧ ∃ x, A'.heap.get b = some x) :
    Inv P B w0 ops anc (E ||| 2 ^ i) gh (listed.setIfInBounds i true) ρ' A' w' (putA t o.dst v) (putA t' o.dst v') := by
  have hil : i < listed.size := by rw [h.lsz]; exact lt_of_get ho
  have hset : ∀ k, (listed.setIfInBounds i true).getD k false = true → k = i ∨ listed.getD k false = true := by
    intro k hk
    by_cases hki : k = i
    · exact .inl hki
    · rw [getD_set_ne false (fun e => hki e.symm)] at hk; exact .inr hk
  have hback : ∀ k, (E ||| 2 ^ i).testBit k = true → (listed.setIfInBounds i true).getD k false = false → E.testBit k = true ∧ listed.getD k false = false := by
    intro k hE hk
    by_cases hki : k = i
    · subst hki
      simp [hil] at hk
    · rw [getD_set_ne false (fun e => hki e.symm)] at hk
      rw [testBit_or_pow] at hE
      simp only [Bool.or_eq_true, decide_eq_true_eq] at hE
      rcases hE with hE | hE
      · exact ⟨hE, hk⟩
      · exact absurd hE.symm hki
  refine ⟨hsr, by rw [putA_size, putA_size]; exact h.size, by simp [h.lsz], fun k hk => ?_, fun k q hk hkq e he hb => ?_, fun d hd x x' hx hx' => ?_, fun k q hk hEk hlk => ?_, fun k b hEk hlk hgk => ?_, fun k k' b hEk hlk hEk' hlk' hgk hgk' => ?_, fun k q d hk hEk hlk hd => ?_⟩
  · rw [testBit_or_pow]
    rcases hset k hk with rfl | hk
    · simp
    · rw [h.sub k hk]; rfl
  · rcases hset k hk with rfl | hk
    · rw [ho] at hkq; injection hkq with hkq; subst hkq
      exact getD_set_true (hafter e he hb)
    · exact getD_set_true (h.clo k q hk hkq e he hb)
  · by_cases hoi : o.dst = some d
    · rw [putA_self t o.dst v d x hoi hx, putA_self t' o.dst v' d x' hoi hx']; exact hv
    · rw [putA_get t o.dst v d hoi] at hx
      rw [putA_get t' o.dst v' d hoi] at hx'
      refine (h.slots d (fun k q hk hEk hlk => ?_) x x' hx hx').mono hle
      refine hd k q hk (by rw [testBit_or_pow, hEk]; rfl) ?_
      rw [getD_set_ne false (fun e => by subst e; rw [hnE] at hEk; cases hEk)]; exact hlk
  · obtain ⟨g1, g2⟩ := hback k hEk hlk
    exact hp k q hk g1 g2
  · obtain ⟨g1, g2⟩ := hback k hEk hlk
    obtain ⟨q1, q2⟩ := hgn k b g1 g2 hgk
    exact ⟨q1, (h.ghn k b g1 g2 hgk).2.1, q2⟩
  · obtain ⟨g1, g2⟩ := hback k hEk hlk
    obtain ⟨g1', g2'⟩ := hback k' hEk' hlk'
    exact h.ghi k k' b g1 g2 g1' g2' hgk hgk'
  · obtain ⟨g1, g2⟩ := hback k hEk hlk
    obtain ⟨f1, f2⟩ := h.fr k q d hk g1 g2 hd
    refine ⟨f1, fun j r hj hEj hlj hne => ?_⟩
    obtain ⟨g3, g4⟩ := hback j hEj hlj
    exact f2 j r hj g3 g4 hne
/-- the evaluator goes on to the next loud operation -/
theorem settle (G : Good P) {K : Array Value → AW → Prop} {listed : Array Bool} {ρ : Ren} {w : World} {t' : Array Value} : ∀ (s : List PS) (E : Nat) (gh : Nat → Option Nat) (A : AW) (t : Array Value), Inv P B w0 ops anc E gh listed ρ A w t t' → okPlan ops anc s E = true → planW P B w0 ops K s t A →
    ∃ s2 E2 gh2 A2 t2, (s2 = [] ∨ (∃ i re s3, s2 = .loud i re :: s3) ∨ ∃ i j ri rj s3, s2 = .pair i j ri rj :: s3) ∧ Inv P B w0 ops anc E2 gh2 listed ρ A2 w t2 t' ∧ okPlan ops anc s2 E2 = true ∧ planW P B w0 ops K s2 t2 A2
  | [], E, gh, A, t, h, hok, hp => ⟨[], E, gh, A, t, .inl rfl, h, hok, hp⟩
  | .loud i re :: s, E, gh, A, t, h, hok, hp => ⟨_, E, gh, A, t, .inr (.inl ⟨i, re, s, rfl⟩), h, hok, hp⟩
  | .pair i j ri rj :: s, E, gh, A, t, h, hok, hp => ⟨_, E, gh, A, t, .inr (.inr ⟨i, j, ri, rj, s, rfl⟩), h, hok, hp⟩
  | .quiet i :: s, E, gh, A, t, h, hok, hp => by
    simp only [okPlan, Bool.and_eq_true] at hok
    obtain ⟨hq, hok⟩ := hok
    simp only [planW] at hp
    cases ho : ops[i]? with
    | none => rw [ho] at hp; exact hp.elim
    | some o =>
      rw [ho] at hp
      dsimp only at hp
      have self : ∀ t2 : Array Value, (∀ d, d ∈ o.looksAt ops → t2[d]? = t[d]?) → Region.wanted o (yielded ops t2) = Region.wanted o (yielded ops t) := fun t2 h1 => wanted_same h1
      cases hw : Region.wanted o (yielded ops t) with
      | false =>
        rw [hw, cond_false] at hp
        have hi := h.add ho hq (A2 := A) (fun b x hx => hx) h.sr (v := undef) (g := none) (fun b hb => by cases hb) (fun t2 gh2 h1 h2 h3 => .inl ⟨(self t2 h2).trans hw, h3, h1⟩)
        exact settle G s _ _ A _ hi hok hp
      | true =>
        rw [hw, cond_true] at hp
        obtain ⟨hgl, hp⟩ := hp
        cases hqa : quietA P (ev t) A o with
        | none => rw [hqa] at hp; exact hp.elim
        | some q =>
          rw [hqa] at hp
          cases q with
          | val v =>
            dsimp only at hp
            have hi := h.add ho hq (A2 := A) (fun b x hx => hx) h.sr (v := v) (g := none) (fun b hb => by cases hb) (fun t2 gh2 h1 h2 h3 => .inr (.inl ⟨(self t2 h2).trans hw, hgl, v, by rw [← quietA_congr o (ev_same h2)]; exact hqa, h3, h1⟩))
            exact settle G s _ _ A _ hi hok hp
          | ghost c e n =>
            dsimp only at hp
            obtain ⟨hr1, hr2, hp⟩ := hp
            have hle : A.le (A.add ⟨.cells c e (0, 0), false, false⟩) := by
              intro b x hx
              rw [add_get h.sr.room, if_neg (Nat.ne_of_lt (h.sr.lt b x hx))]
              exact hx
            have hnew : (A.add ⟨.cells c e (0, 0), false, false⟩).heap.get A.next = some ⟨.cells c e (0, 0), false, false⟩ := by rw [add_get h.sr.room, if_pos rfl]
            have hi := h.add ho hq hle (h.sr.ghost hr1 _) (v := ghostV A.next n) (g := some A.next) (fun b hb => ?_) (fun t2 gh2 h1 h2 h3 => .inr (.inr ⟨(self t2 h2).trans hw, hgl, c, e, n, A.next, quietA_le hle (by rw [← quietA_congr o (ev_same h2)]; exact hqa), h3, h1, hnew⟩))
            · exact settle G s _ _ _ _ hi hok hp
            · injection hb with hb; subst hb
              have hfr : A.heap.get A.next = none := by
                cases hx : A.heap.get A.next with
                | none => rfl
                | some x => exact absurd (h.sr.lt _ x hx) (Nat.lt_irrefl _)
              exact ⟨h.sr.fresh, fun x hx => Nat.lt_irrefl _ (h.sr.lt _ _ (h.sr.off _ x hx).2), ⟨_, hnew⟩, hfr⟩
theorem loudOk_notE {E i : Nat} {re : List Nat} {more : Nat} (h : loudOk ops anc E i re more = true) : ∃ o, ops[i]? = some o ∧ E.testBit i = false := by
  unfold loudOk at h
  cases ho : ops[i]? with
  | none => rw [ho] at h; cases h
  | some o =>
    rw [ho] at h
    simp only [Bool.and_eq_true, Bool.not_eq_true'] at h
    exact ⟨o, rfl, h.1.1⟩
/-- a loud operation comes up in the world -/
theorem loud_any (G : Good P) (hanc : ancOk ops anc = true) {Q : Exit → Act → World → Prop} (ds : List Deferred) {J : Array Value → AW → Prop} {E : Nat} {gh : Nat → Option Nat} {listed : Array Bool} {ρ : Ren} {A : AW} {w : World} {t t' : Array Value} {i : Nat} {o : Oper} {re : List Nat} {more : Nat} {R : Act → World → Prop}
    (h : Inv P B w0 ops anc E gh listed ρ A w t t') (ho : ops[i]? = some o) (hafter : ∀ e ∈ o.after, Region.binds .any e = true → listed.getD e.on false = true) (hE : E.testBit i = false) (hlo : loudOk ops anc E i re more = true)
    (hp : loudW P B w0 ops i re J t A)
    (hR : ∀ ρ' A' w' t2 t2', ρ.le ρ' → J t2 A' → Inv P B w0 ops anc (E ||| 2 ^ i) gh (listed.setIfInBounds i true) ρ' A' w' t2 t2' → R ⟨t2', ds⟩ w') :
    if Region.wanted o (yielded ops t') then o.wpIn w0.F 0 P ⟨t', ds⟩ w R Q else R ⟨putA t' o.dst undef, ds⟩ w := by
  have hancL : ∀ k, (anc i).testBit k = true → listed.getD k false = true := fun k hk => anc_listed hanc h.clo k i o ho hafter hk
  unfold loudOk at hlo
  rw [ho] at hlo
  simp only [Bool.and_eq_true, Bool.not_eq_true'] at hlo
  obtain ⟨⟨hnE, hdeps⟩, hsc⟩ := hlo
  have hfar : ∀ k q, ops[k]? = some q → E.testBit k = true → listed.getD k false = false → (∀ d, q.dst = some d → d ∉ o.looksAt ops) ∧ (∀ d, o.dst = some d → d ∉ q.looksAt ops ∧ q.dst ≠ some d) ∧ (memK q = true → k ∈ re) := by
    intro k q hk hEk hlk
    have := all_range hsc (lt_of_get hk)
    rw [hEk, cond_true, Bool.or_eq_true] at this
    rcases this with this | this
    · have := hancL k this
      rw [this] at hlk; cases hlk
    · simp only [Bool.and_eq_true] at this
      obtain ⟨⟨a1, a2⟩, a3⟩ := this
      refine ⟨fun d hd hm => ?_, fun d hd => ?_, fun hm => ?_⟩
      · unfold dstAt at a1
        rw [hk] at a1
        dsimp only at a1
        rw [hd] at a1
        dsimp only at a1
        rw [memN_iff.2 hm] at a1
        cases a1
      · rw [hd] at a2
        dsimp only at a2
        rw [Bool.not_eq_true'] at a2
        exact namesB_spec hk a2
      · rw [hk] at a3
        dsimp only at a3
        rw [hm] at a3
        exact memN_iff.1 a3
  have hlooks : ∀ d, d ∈ o.looksAt ops → ∀ v v', t[d]? = some v → t'[d]? = some v' → VR ρ v v' := fun d hd =>
    h.slots d fun k q hk hEk hlk hdk => (hfar k q hk hEk hlk).1 d hdk hd
  have hw := wanted_rel (o := o) h.size hlooks
  have hkeep : ∀ k q, ops[k]? = some q → E.testBit k = true → listed.getD k false = false → ∀ v, (∀ d, d ∈ q.looksAt ops → (putA t o.dst v)[d]? = t[d]?) ∧ (∀ d, q.dst = some d → (putA t o.dst v)[d]? = t[d]?) := by
    intro k q hk hEk hlk v
    obtain ⟨_, f2, _⟩ := hfar k q hk hEk hlk
    exact ⟨fun d hd => putA_get _ _ _ _ fun he => (f2 d he).1 hd, fun d hd => putA_get _ _ _ _ fun he => (f2 d he).2 hd⟩
  rw [hw]
  unfold loudW at hp
  rw [ho] at hp
  dsimp only at hp
  cases hwt : Region.wanted o (yielded ops t) with
  | false =>
    rw [hwt, cond_false] at hp
    rw [if_neg (by decide)]
    refine hR ρ A w _ _ (Ren.le_refl _) hp (h.loud ho hE hafter (Ren.le_refl _) h.sr (undef_rel ρ) (fun k q hk hEk hlk => ?_) (fun k b hEk hlk hgk => ?_))
    · obtain ⟨k1, k2⟩ := hkeep k q hk hEk hlk undef
      exact (h.pend k q hk hEk hlk).keep (fun b x hx => hx) rfl k1 k2
    · obtain ⟨n1, _, n3⟩ := h.ghn k b hEk hlk hgk
      exact ⟨n1, n3⟩
  | true =>
    rw [hwt, cond_true] at hp
    rw [if_pos rfl]
    have hops := fun hk => ev_rel' (o := o) h.sr.glo h.size hlooks hp.1 hk
    let Γ : Nat → ABk → Prop := fun b x => w0.Γ b x ∨ ∃ k, E.testBit k = true ∧ listed.getD k false = false ∧ gh k = some b ∧ A.heap.get b = some x
    have hsr1 : SR P B (w0.but Γ) ρ A w := h.sr.rebase Γ fun b x hx => by
      rcases hx with hx | ⟨k, k1, k2, k3, k4⟩
      · exact h.sr.off b x hx
      · exact ⟨(h.ghn k b k1 k2 k3).1, k4⟩
    refine step_sound G hsr1 ds hops hp fun ρ' v v' A' w' g0 g1 g2 g3 => ?_
    have hback : SR P B w0 ρ' A' w' := by
      have := g2.rebase w0.Γ fun b x hx => g2.off b x (.inl hx)
      exact this
    refine hR ρ' A' w' _ _ g1 g0.2 (h.loud ho hE hafter g1 hback g3 (fun k q hk hEk hlk => ?_) (fun k b hEk hlk hgk => ?_))
    · obtain ⟨k1, k2⟩ := hkeep k q hk hEk hlk v
      have hh : ∀ u, holds t q.dst u → holds (putA t o.dst v) q.dst u := fun u hu i x hi hx => hu i x hi (by rw [← k2 i hi]; exact hx)
      rcases h.pend k q hk hEk hlk with ⟨q1, q2, q3⟩ | ⟨q1, q0, u, q2, q3, q4⟩ | ⟨q1, q0, c, e, n, b, q2, q3, q4, q5⟩
      · exact .inl ⟨(wanted_same k1).trans q1, hh _ q2, q3⟩
      · cases hm : memK q with
        | true =>
          obtain ⟨u2, u3, u4⟩ := g0.1 k ((hfar k q hk hEk hlk).2.2 hm) q hk ((wanted_same k1).trans q1)
          exact .inr (.inl ⟨(wanted_same k1).trans q1, q0, u2, u3, u4, q4⟩)
        | false =>
          exact .inr (.inl ⟨(wanted_same k1).trans q1, q0, u, by rw [← quietA_congr q (ev_same k1), ← quietA_mem hm A]; exact q2, hh _ q3, q4⟩)
      · have hm := quietA_ghost_mem q2
        refine .inr (.inr ⟨(wanted_same k1).trans q1, q0, c, e, n, b, by rw [← quietA_congr q (ev_same k1), ← quietA_mem hm A]; exact q2, hh _ q3, q4, ?_⟩)
        exact (g2.off b _ (.inr ⟨k, hEk, hlk, q4, q5⟩)).2
    · obtain ⟨_, _, x, n3⟩ := h.ghn k b hEk hlk hgk
      obtain ⟨o1, o2⟩ := g2.off b x (.inr ⟨k, hEk, hlk, hgk, n3⟩)
      exact ⟨o1, x, o2⟩
theorem loudOk_only {E i : Nat} {re : List Nat} {more : Nat} (hlo : loudOk ops anc E i re more = true) {k : Nat} (hk : k < ops.size) (hE : E.testBit k = false) : k = i ∨ k = more ∨ (anc k).testBit i = true := by
  unfold loudOk at hlo
  cases ho : ops[i]? with
  | none => rw [ho] at hlo; cases hlo
  | some o =>
    rw [ho] at hlo
    simp only [Bool.and_eq_true, Bool.not_eq_true'] at hlo
    have := all_range hlo.2 hk
    rw [hE, cond_false, Bool.or_eq_true, Bool.or_eq_true] at this
    rcases this with (this | this) | this
    · exact .inl (Tr.beq_iff.1 this)
    · exact .inr (.inl (Tr.beq_iff.1 this))
    · exact .inr (.inr this)
theorem plan_any (G : Good P) (hanc : ancOk ops anc = true) {Q : Exit → Act → World → Prop} (ds : List Deferred) {K : Array Value → AW → Prop} : ∀ (fuel : Nat) (rem : List Nat) (listed : Array Bool) (E : Nat) (gh : Nat → Option Nat) (s : List PS) (ρ : Ren) (A : AW) (w : World) (t t' : Array Value),
    Inv P B w0 ops anc E gh listed ρ A w t t' → rem.length = fuel → (∀ k, k < ops.size → listed.getD k false = false → k ∈ rem) → okPlan ops anc s E = true → planW P B w0 ops K s t A →
    (∀ ρ' tf Af t2 w', K tf Af → ρ.le ρ' → AR ρ' tf t2 → SR P B w0 ρ' Af w' → Q .normal ⟨t2, ds⟩ w') → wpAnyIn w0.F 0 P .any ops Q fuel listed ⟨t', ds⟩ w := by
  intro fuel
  have atEnd : ∀ {listed : Array Bool} {E : Nat} {gh : Nat → Option Nat} {s : List PS} {ρ : Ren} {A : AW} {w : World} {t t' : Array Value}, Inv P B w0 ops anc E gh listed ρ A w t t' → (s = [] ∨ (∃ i re s3, s = .loud i re :: s3) ∨ ∃ i j ri rj s3, s = .pair i j ri rj :: s3) → okPlan ops anc s E = true → planW P B w0 ops K s t A →
      (∀ k, k < ops.size → listed.getD k false = true) → (∀ ρ' tf Af t2 w', K tf Af → ρ.le ρ' → AR ρ' tf t2 → SR P B w0 ρ' Af w' → Q .normal ⟨t2, ds⟩ w') → Q .normal ⟨t', ds⟩ w := by
    intro listed E gh s ρ A w t t' h hs hok hp hall hQ
    rcases hs with rfl | ⟨i, re, s3, rfl⟩ | ⟨i, j, ri, rj, s3, rfl⟩
    · refine hQ ρ t A t' w hp (Ren.le_refl _) (AR.of? h.size fun j v v' hv hv' => h.slots j (fun k o hk _ hl => ?_) v v' hv hv') h.sr
      rw [hall k (lt_of_get hk)] at hl; cases hl
    · simp only [okPlan, Bool.and_eq_true] at hok
      obtain ⟨o, ho, hnE⟩ := loudOk_notE hok.1
      have := h.sub i (hall i (lt_of_get ho))
      rw [hnE] at this; cases this
    · simp only [okPlan, Bool.and_eq_true] at hok
      obtain ⟨o, ho, hnE⟩ := loudOk_notE hok.1.1.1.1.2
      have := h.sub i (hall i (lt_of_get ho))
      rw [hnE] at this; cases this
  induction fuel with
  | zero =>
    intro rem listed E gh s ρ A w t t' h0 hlen hrem hok0 hp0 hQ
    obtain ⟨s2, E2, gh2, A2, t2, hs2, h, hok, hp⟩ := settle G s E gh A t h0 hok0 hp0
    have hnil : rem = [] := List.eq_nil_of_length_eq_zero hlen
    have hall : ∀ k, k < ops.size → listed.getD k false = true := by
      intro k hk
      cases hl : listed.getD k false with
      | true => rfl
      | false => have := hrem k hk hl; rw [hnil] at this; cases this
    have hready : Region.ready .any ops listed = [] := by
      cases hrd : Region.ready .any ops listed with
      | nil => rfl
      | cons i l =>
        have hi : i ∈ Region.ready .any ops listed := by rw [hrd]; exact List.mem_cons_self
        obtain ⟨h1, o, h2, _⟩ := mem_ready.1 hi
        have h3 := hall i (lt_of_get h2)
        rw [Array.getD_eq_getD_getElem?, Array.getElem?_eq_getElem (h.lsz ▸ lt_of_get h2)] at h1 h3
        simp only [Option.getD_some] at h1 h3
        rw [h1] at h3; cases h3
    exact ⟨hready, atEnd h hs2 hok hp hall hQ⟩
  | succ fuel ih =>
    intro rem listed E gh s ρ A w t t' h0 hlen hrem hok0 hp0 hQ
    obtain ⟨s2, E2, gh2, A2, t2, hs2, h, hok, hp⟩ := settle G s E gh A t h0 hok0 hp0
    have rem_next : ∀ i, i < ops.size → listed.getD i false = false → ∃ rem2 : List Nat, rem2.length = fuel ∧ ∀ k, k < ops.size → (listed.setIfInBounds i true).getD k false = false → k ∈ rem2 := by
      intro i hi hl
      refine ⟨rem.erase i, by rw [List.length_erase_of_mem (hrem i hi hl), hlen]; rfl, fun k hk hlk => ?_⟩
      have hki : k ≠ i := by
        intro e; subst e
        have : k < listed.size := by rw [h.lsz]; exact hk
        simp [this] at hlk
      rw [getD_set_ne false (fun e => hki e.symm)] at hlk
      exact (List.mem_erase_of_ne hki).2 (hrem k hk hlk)
    refine ⟨fun hready => atEnd h hs2 hok hp (all_listed hanc h.lsz hready) hQ, fun i hi => ?_⟩
    obtain ⟨hl0, o, ho, hafter⟩ := mem_ready.1 hi
    have hisz := lt_of_get ho
    have hl : listed.getD i false = false := by
      rw [Array.getD_eq_getD_getElem?, Array.getElem?_eq_getElem (h.lsz ▸ hisz)] at hl0 ⊢
      exact hl0
    obtain ⟨rem2, hlen2, hrem2⟩ := rem_next i hisz hl
    have hancL : ∀ k, (anc i).testBit k = true → listed.getD k false = true := fun k hk => anc_listed hanc h.clo k i o ho hafter hk
    have hput : ∀ v, (⟨t', ds⟩ : Act).put o.dst v = ⟨putA t' o.dst v, ds⟩ := fun v => put_act t' ds o.dst v
    -- a loud operation, its own plan behind it
    have loud : ∀ (re : List Nat) (more : Nat) (s3 : List PS), E2.testBit i = false → loudOk ops anc E2 i re more = true → okPlan ops anc s3 (E2 ||| 2 ^ i) = true → loudW P B w0 ops i re (planW P B w0 ops K s3) t2 A2 → wpOpIn w0.F 0 P ops Q i (wpAnyIn w0.F 0 P .any ops Q fuel (listed.setIfInBounds i true)) ⟨t', ds⟩ w := by
      intro re more s3 hE hlo hok3 hp3
      unfold wpOpIn
      simp only [ho]
      have := loud_any (Q := Q) G hanc ds (R := fun a w => wpAnyIn w0.F 0 P .any ops Q fuel (listed.setIfInBounds i true) a w) h ho hafter hE hlo hp3 fun ρ' A' w' t3 t3' g1 g2 g3 => ih rem2 _ _ gh2 s3 ρ' A' w' t3 t3' g3 hlen2 hrem2 hok3 g2 fun ρ2 tf Af t4 w2 r0 r1 r2 r3 => hQ ρ2 tf Af t4 w2 r0 (Ren.le_trans g1 r1) r2 r3
      split
      · rename_i hw
        rw [if_pos hw] at this
        exact this
      · rename_i hw
        rw [if_neg hw] at this
        rw [hput]
        exact ⟨fun _ _ => trivial, this⟩
    cases hE : E2.testBit i with
    | true =>
      unfold wpOpIn
      simp only [ho]
      -- a quiet operation that the evaluator has done
      have hlooks : ∀ d, d ∈ o.looksAt ops → ∀ v v', t2[d]? = some v → t'[d]? = some v' → VR ρ v v' := by
        intro d hd
        refine h.slots d fun k q hk hEk hlk hdk => ?_
        obtain ⟨f1, f2⟩ := h.fr k q d hk hEk hlk hdk
        by_cases hki : k = i
        · subst hki
          rw [ho] at hk; injection hk with hk; subst hk
          exact f1 hd
        · have := hancL k ((f2 i o ho hE hl hki).2 hd)
          rw [this] at hlk; cases hlk
      have hw := wanted_rel (o := o) h.size hlooks
      have hops := fun hg hk => ev_rel' (o := o) h.sr.glo h.size hlooks hg hk
      rw [hw]
      rcases h.pend i o ho hE hl with ⟨q1, q2, q3⟩ | ⟨q1, q0, v, q2, q3, q4⟩ | ⟨q1, q0, c, e, n, b, q2, q3, q4, q5⟩
      · rw [q1]
        rw [if_neg (by decide), put_act]
        refine ⟨fun _ _ => trivial, ?_⟩
        exact ih rem2 _ E2 gh2 s2 ρ A2 w t2 _ (h.done ho hE hl hafter (Ren.le_refl _) h.sr (undef_rel ρ) q2 (fun b hb _ => hb)) hlen2 hrem2 hok hp hQ
      · rw [q1]
        rw [if_pos rfl]
        obtain ⟨v', g1, g2⟩ := quiet_val G h.sr (hops q0) q2
        refine ⟨fun _ _ => trivial, ?_⟩
        rw [semAt_run (by rw [eval_ev]; exact g2) (fun d hd => by cases hd), Oper.uponIn_value, put_act]
        exact ih rem2 _ E2 gh2 s2 ρ A2 w t2 _ (h.done ho hE hl hafter (Ren.le_refl _) h.sr g1 q3 (fun b hb _ => hb)) hlen2 hrem2 hok hp hQ
      · rw [q1]
        rw [if_pos rfl]
        obtain ⟨n1, n2, _⟩ := h.ghn i b hE hl q4
        obtain ⟨inf, v', w', g1, g2, g3⟩ := quiet_ghost G h.sr (hops q0) q2 q5 n1 n2
        refine ⟨fun _ _ => trivial, ?_⟩
        rw [semAt_run (by rw [eval_ev]; exact g3) (fun d hd => by cases hd), Oper.uponIn_value, put_act]
        have hle := Ren.le_more (i := inf) n1
        refine ih rem2 _ E2 gh2 s2 _ A2 w' t2 _ (h.done ho hE hl hafter hle g1 g2 q3 (fun b2 hb2 hne => ?_)) hlen2 hrem2 hok hp (fun ρ' tf Af t3 w2 r0 r1 r2 r3 => hQ ρ' tf Af t3 w2 r0 (Ren.le_trans hle r1) r2 r3)
        unfold Ren.more
        rw [if_neg (by intro e2; subst e2; exact hne q4)]
        exact hb2
    | false =>
      rcases hs2 with rfl | ⟨i0, re, s3, rfl⟩ | ⟨i0, j0, ri, rj, s3, rfl⟩
      · have := all_range hok hisz
        rw [hE] at this; cases this
      · simp only [okPlan, Bool.and_eq_true] at hok
        obtain ⟨hlo, hok⟩ := hok
        obtain ⟨o0, ho0, hnE⟩ := loudOk_notE hlo
        have hii : i = i0 := by
          rcases loudOk_only hlo hisz hE with this | this | this
          · exact this
          · exact this
          · have := h.sub i0 (hancL i0 this)
            rw [hnE] at this; cases this
        subst hii
        exact loud re i s3 hE hlo hok hp
      · simp only [okPlan, Bool.and_eq_true, Bool.not_eq_true'] at hok
        obtain ⟨⟨⟨⟨⟨hne, hlo1⟩, hlo2⟩, hlo3, hlo4⟩, hok1⟩, hok2⟩ := hok
        obtain ⟨o0, ho0, hnE⟩ := loudOk_notE hlo1
        obtain ⟨hpi, hpj⟩ := hp
        have hij : i = i0 ∨ i = j0 := by
          rcases loudOk_only hlo1 hisz hE with this | this | this
          · exact .inl this
          · exact .inr this
          · have := h.sub i0 (hancL i0 this)
            rw [hnE] at this; cases this
        rcases hij with rfl | rfl
        · exact loud ri j0 (.loud j0 rj :: s3) hE hlo1 (by simp only [okPlan, Bool.and_eq_true]; exact ⟨hlo3, hok1⟩) hpi
        · exact loud rj i0 (.loud i0 ri :: s3) hE hlo2 (by simp only [okPlan, Bool.and_eq_true]; exact ⟨hlo4, hok2⟩) hpj
/-- a drawn region -/
theorem region_any (G : Good P) (hanc : ancOk ops anc = true) {Q : Exit → Act → World → Prop} (ds : List Deferred) {id : Nat} {s : List PS} {ρ : Ren} {A : AW} {w : World} {t t' : Array Value} {K : Array Value → AW → Prop}
    (h : SR P B w0 ρ A w) (ht : AR ρ t t') (hok : okPlan ops anc s 0 = true) (hp : planW P B w0 ops K s t A) (hQ : ∀ ρ' tf Af t2 w', K tf Af → ρ.le ρ' → AR ρ' tf t2 → SR P B w0 ρ' Af w' → Q .normal ⟨t2, ds⟩ w') : (Code.region id ops true).wpIn w0.F 0 P Q ⟨t', ds⟩ w := by
  refine wpIn_region_any G.mixed ?_
  have h' : SR P B w0 ρ A { w with drawn := w.drawn + 1 } := ⟨⟨h.below.os, h.below.tape, h.below.output, h.below.size, h.below.block⟩, h.low, h.dom, h.room, h.lt, h.off, h.blk, h.apart, h.glo, h.marks⟩
  have hfalse : ∀ k, (Array.replicate ops.size false).getD k false = false := by
    intro k
    rw [Array.getD_eq_getD_getElem?, Array.getElem?_replicate]
    split <;> rfl
  refine plan_any G hanc ds ops.size (List.range ops.size) _ 0 (fun _ => none) s ρ A _ t t' ⟨h', ht.1, by simp, fun k hk => ?_, fun k o hk => ?_, fun d _ v v' hv hv' => ?_, fun k o _ hE => ?_, fun k b hE => ?_, fun k k' b hE => ?_, fun k o d _ hE => ?_⟩ (by simp) (fun k hk _ => List.mem_range.2 hk) hok hp hQ
  · rw [hfalse] at hk; cases hk
  · rw [hfalse] at hk; cases hk
  · obtain ⟨x, h1, h2⟩ := ht.at hv
    rw [h1] at hv'; injection hv' with hv'; subst hv'; exact h2
  · simp at hE
  · simp at hE
  · simp at hE
  · simp at hE
/-- a region in the text's order -/
theorem opsW_sound (G : Good P) {K : Array Value → AW → Prop} {Q : Exit → Act → World → Prop} (ds : List Deferred) : ∀ (l : List Nat) (ρ : Ren) (A : AW) (w : World) (t t' : Array Value), SR P B w0 ρ A w → AR ρ t t' →
    opsW P B w0 ops K l t A → (∀ ρ' tf Af t2 w', K tf Af → ρ.le ρ' → AR ρ' tf t2 → SR P B w0 ρ' Af w' → Q .normal ⟨t2, ds⟩ w') → wpOpsIn w0.F 0 P ops Q l ⟨t', ds⟩ w
  | [], ρ, A, w, t, t', h, ht, ha, hQ => hQ ρ t A t' w ha (Ren.le_refl _) ht h
  | i :: rest, ρ, A, w, t, t', h, ht, ha, hQ => by
    simp only [opsW] at ha
    simp only [wpOpsIn]
    cases ho : ops[i]? with
    | none =>
      rw [ho] at ha
      exact opsW_sound G ds rest ρ A w t t' h ht ha hQ
    | some o =>
      rw [ho] at ha
      dsimp only at ha ⊢
      rw [yielded_rel ht ops] at ha
      cases hw : Region.wanted o (yielded ops t') with
      | true =>
        rw [hw, cond_true] at ha
        rw [if_pos rfl]
        cases hl : loudB o with
        | true =>
          rw [hl, cond_true] at ha
          refine step_sound (Γ := w0.Γ) G h ds (evs_ok h.glo ht ha.1) ha fun ρ' v v' A' w' g0 g1 g2 g3 => ?_
          exact opsW_sound G ds rest ρ' A' w' _ _ g2 (putA_rel (ht.mono g1) o.dst g3) g0 (fun ρ2 tf Af t2 w2 q0 q1 q2 q3 => hQ ρ2 tf Af t2 w2 q0 (Ren.le_trans g1 q1) q2 q3)
        | false =>
          rw [hl, cond_false] at ha
          obtain ⟨hgl, ha⟩ := ha
          have hops := evs_ok h.glo ht hgl
          cases hqa : quietA P (ev t) A o with
          | none => rw [hqa] at ha; exact ha.elim
          | some q =>
            rw [hqa] at ha
            cases q with
            | val v =>
              dsimp only at ha
              obtain ⟨v', g1, g2⟩ := quiet_val G h hops hqa
              refine ⟨fun _ _ => trivial, ?_⟩
              rw [semAt_run (by rw [eval_ev]; exact g2) (fun d hd => by cases hd), Oper.uponIn_value, put_act]
              exact opsW_sound G ds rest ρ A w _ _ h (putA_rel ht o.dst g1) ha hQ
            | ghost c e n =>
              dsimp only at ha
              obtain ⟨hr1, hr2, ha⟩ := ha
              have hle : A.le (A.add ⟨.cells c e (0, 0), false, false⟩) := by
                intro b x hx
                rw [add_get h.room, if_neg (Nat.ne_of_lt (h.lt b x hx))]
                exact hx
              have hnew : (A.add ⟨.cells c e (0, 0), false, false⟩).heap.get A.next = some ⟨.cells c e (0, 0), false, false⟩ := by rw [add_get h.room, if_pos rfl]
              obtain ⟨inf, v', w', g1, g2, g3⟩ := quiet_ghost G (h.ghost hr1 _) hops (quietA_le hle hqa) hnew h.fresh (fun x hx => Nat.lt_irrefl _ (h.lt _ _ (h.off _ x hx).2))
              refine ⟨fun _ _ => trivial, ?_⟩
              rw [semAt_run (by rw [eval_ev]; exact g3) (fun d hd => by cases hd), Oper.uponIn_value, put_act]
              have hle2 := Ren.le_more (i := inf) h.fresh
              exact opsW_sound G ds rest _ _ w' _ _ g1 (putA_rel (ht.mono hle2) o.dst g2) ha (fun ρ2 tf Af t2 w2 q0 q1 q2 q3 => hQ ρ2 tf Af t2 w2 q0 (Ren.le_trans hle2 q1) q2 q3)
      | false =>
        rw [hw, cond_false] at ha
        rw [if_neg (by decide), put_act]
        refine ⟨fun _ _ => trivial, ?_⟩
        exact opsW_sound G ds rest ρ A w _ _ h (putA_rel ht o.dst (undef_rel ρ)) ha hQ
end
end Go.Proofs.YtnneooidkbhbeaaGreatDoor.Sim
