/- A verified evaluator, part Q: a drawn region goes as its plan. Of no program. -/
import Derived.Test.YtnneooidkbhbeaaGreatDoorSimP
set_option linter.unusedVariables false
set_option linter.unusedSimpArgs false
namespace Go.Proofs.YtnneooidkbhbeaaGreatDoor.Sim
open Go Go.RowKit

/-- what the world has not done yet it would do as it was done -/
def Pend (P : Program) (gl : Nat → Bool) (ops : Array Oper) (gh : Nat → Option Nat) (A : AW) (t : Array Value) (k : Nat) (o : Oper) : Prop :=
  (Region.wanted o (yielded ops t) = false ∧ holds t o.dst undef ∧ gh k = none) ∨
  (Region.wanted o (yielded ops t) = true ∧ glOp gl o = true ∧ ∃ v, quietA P (ev t) A o = some (.val v) ∧ holds t o.dst v ∧ gh k = none) ∨
  (Region.wanted o (yielded ops t) = true ∧ glOp gl o = true ∧ ∃ c e n b, quietA P (ev t) A o = some (.ghost c e n) ∧ holds t o.dst (ghostV b n) ∧ gh k = some b ∧ A.heap.get b = some ⟨.cells c e (0, 0), false, false⟩)

theorem looksAt_operand {ops : Array Oper} {o : Oper} {d : Tmp} (h : Operand.tmp d ∈ o.op.operands) : d ∈ o.looksAt ops :=
  List.mem_append_left _ (List.mem_filterMap.2 ⟨.tmp d, Array.mem_toList_iff.2 h, rfl⟩)
theorem looksAt_guard {ops : Array Oper} {o : Oper} {g : Nat} {w : Bool} {d : Tmp} (h : o.guard = some (g, w)) (hd : (ops[g]?).bind (·.dst) = some d) : d ∈ o.looksAt ops :=
  List.mem_append_right _ (by rw [h]; simp [hd])
theorem ev_same {t t2 : Array Value} {o : Oper} {ops : Array Oper} (h : ∀ d, d ∈ o.looksAt ops → t2[d]? = t[d]?) : ∀ x ∈ o.op.operands, ev t x = ev t2 x := by
  intro x hx
  cases x with
  | tmp d =>
    show t.getD d undef = t2.getD d undef
    rw [Array.getD_eq_getD_getElem?, Array.getD_eq_getD_getElem?, h d (looksAt_operand hx)]
  | _ => rfl
theorem wanted_same {t t2 : Array Value} {o : Oper} {ops : Array Oper} (h : ∀ d, d ∈ o.looksAt ops → t2[d]? = t[d]?) : Region.wanted o (yielded ops t2) = Region.wanted o (yielded ops t) := by
  unfold Region.wanted
  cases hg : o.guard with
  | none => rfl
  | some gw =>
    obtain ⟨g, w⟩ := gw
    have : yielded ops t2 g = yielded ops t g := by
      unfold yielded
      cases hd : (ops[g]?).bind (·.dst) with
      | none => rfl
      | some d => simp only [Option.bind_some]; rw [h d (looksAt_guard hg hd)]
    simp only [this]
theorem wanted_rel {ρ : Ren} {t t' : Array Value} {o : Oper} {ops : Array Oper} (hs : t.size = t'.size) (h : ∀ d, d ∈ o.looksAt ops → ∀ v v', t[d]? = some v → t'[d]? = some v' → VR ρ v v') : Region.wanted o (yielded ops t') = Region.wanted o (yielded ops t) := by
  unfold Region.wanted
  cases hg : o.guard with
  | none => rfl
  | some gw =>
    obtain ⟨g, w⟩ := gw
    have : yielded ops t' g = yielded ops t g := by
      unfold yielded
      cases hd : (ops[g]?).bind (·.dst) with
      | none => rfl
      | some d =>
        simp only [Option.bind_some]
        by_cases hlt : d < t.size
        · rw [Array.getElem?_eq_getElem hlt, Array.getElem?_eq_getElem (hs ▸ hlt)]
          have := h d (looksAt_guard hg hd) _ _ (Array.getElem?_eq_getElem hlt) (Array.getElem?_eq_getElem (hs ▸ hlt))
          generalize t[d] = x at this
          generalize t'[d]'(hs ▸ hlt) = y at this
          cases this <;> rfl
        · have e1 : t[d]? = none := Array.getElem?_eq_none (Nat.le_of_not_lt hlt)
          have e2 : t'[d]? = none := Array.getElem?_eq_none (by rw [← hs]; exact Nat.le_of_not_lt hlt)
          rw [e1, e2]
    simp only [this]
theorem ev_rel' {gl : Nat → Bool} {ρ : Ren} (hG : GlR gl ρ) {t t' : Array Value} {o : Oper} {ops : Array Oper} (hs : t.size = t'.size) (h : ∀ d, d ∈ o.looksAt ops → ∀ v v', t[d]? = some v → t'[d]? = some v' → VR ρ v v') (hgl : glOp gl o = true) (hk : okOp o = true) : ∀ x ∈ o.op.operands, VR ρ (ev t x) (ev t' x) := by
  intro x hx
  have hx2 := okAll hk hx
  cases x with
  | tmp d =>
    show VR ρ (t.getD d undef) (t'.getD d undef)
    rw [Array.getD_eq_getD_getElem?, Array.getD_eq_getD_getElem?]
    by_cases hlt : d < t.size
    · rw [Array.getElem?_eq_getElem hlt, Array.getElem?_eq_getElem (hs ▸ hlt)]
      exact h d (looksAt_operand hx) _ _ (Array.getElem?_eq_getElem hlt) (Array.getElem?_eq_getElem (hs ▸ hlt))
    · have e1 : t[d]? = none := Array.getElem?_eq_none (Nat.le_of_not_lt hlt)
      have e2 : t'[d]? = none := Array.getElem?_eq_none (by rw [← hs]; exact Nat.le_of_not_lt hlt)
      rw [e1, e2]
      exact undef_rel ρ
  | const v => exact free_rel ρ hx2
  | global g => exact glo_rel hG (glAll hgl hx)
  | func f => exact VR.mkFunc _ rfl (AR.empty ρ) (AR.empty ρ)
theorem putA_get (t : Array Value) (d : Option Tmp) (v : Value) (i : Nat) (h : d ≠ some i) : (putA t d v)[i]? = t[i]? := by
  cases d with
  | none => rfl
  | some d =>
    show (t.setIfInBounds d v)[i]? = _
    rw [Array.getElem?_setIfInBounds, if_neg (fun e => h (by rw [e]))]
theorem putA_size (t : Array Value) (d : Option Tmp) (v : Value) : (putA t d v).size = t.size := by
  cases d with
  | none => rfl
  | some d => exact Array.size_setIfInBounds
theorem putA_self (t : Array Value) (d : Option Tmp) (v : Value) : holds (putA t d v) d v := by
  intro i x hd hx
  subst hd
  have : (t.setIfInBounds i v)[i]? = some x := hx
  rw [Array.getElem?_setIfInBounds, if_pos rfl] at this
  split at this
  · injection this with this; exact this.symm
  · cases this
theorem Pend.keep {P : Program} {gl : Nat → Bool} {ops : Array Oper} {gh gh2 : Nat → Option Nat} {A A2 : AW} {t t2 : Array Value} {k : Nat} {o : Oper} (hA : A.le A2) (hg : gh2 k = gh k) (h1 : ∀ d, d ∈ o.looksAt ops → t2[d]? = t[d]?) (h2 : ∀ d, o.dst = some d → t2[d]? = t[d]?) (h : Pend P gl ops gh A t k o) : Pend P gl ops gh2 A2 t2 k o := by
  have hh : ∀ v, holds t o.dst v → holds t2 o.dst v := fun v hv i x hi hx => hv i x hi (by rw [← h2 i hi]; exact hx)
  have hq : ∀ q, quietA P (ev t) A o = some q → quietA P (ev t2) A2 o = some q := fun q h => by
    rw [← quietA_congr o (ev_same h1)]; exact quietA_le hA h
  rcases h with ⟨q1, q2, q3⟩ | ⟨q1, q0, v, q2, q3, q4⟩ | ⟨q1, q0, c, e, n, b, q2, q3, q4, q5⟩
  · exact .inl ⟨(wanted_same h1).trans q1, hh _ q2, hg.trans q3⟩
  · exact .inr (.inl ⟨(wanted_same h1).trans q1, q0, v, hq _ q2, hh _ q3, hg.trans q4⟩)
  · exact .inr (.inr ⟨(wanted_same h1).trans q1, q0, c, e, n, b, hq _ q2, hh _ q3, hg.trans q4, hA _ _ q5⟩)

/-- the world lags behind -/
structure Inv (P : Program) (B : Nat) (w0 : Base) (ops : Array Oper) (anc : Nat → Nat) (E : Nat) (gh : Nat → Option Nat) (listed : Array Bool) (ρ : Ren) (A : AW) (w : World) (t t' : Array Value) : Prop where
  sr : SR P B w0 ρ A w
  size : t.size = t'.size
  lsz : listed.size = ops.size
  sub : ∀ k, listed.getD k false = true → E.testBit k = true
  clo : ∀ k o, listed.getD k false = true → ops[k]? = some o → ∀ e ∈ o.after, Region.binds .any e = true → listed.getD e.on false = true
  slots : ∀ d, (∀ k o, ops[k]? = some o → E.testBit k = true → listed.getD k false = false → o.dst ≠ some d) → ∀ v v', t[d]? = some v → t'[d]? = some v' → VR ρ v v'
  pend : ∀ k o, ops[k]? = some o → E.testBit k = true → listed.getD k false = false → Pend P w0.gl ops gh A t k o
  ghn : ∀ k b, E.testBit k = true → listed.getD k false = false → gh k = some b → ρ b = none ∧ (∀ x, ¬ w0.Γ b x) ∧ ∃ x, A.heap.get b = some x
  ghi : ∀ k k' b, E.testBit k = true → listed.getD k false = false → E.testBit k' = true → listed.getD k' false = false → gh k = some b → gh k' = some b → k = k'
  fr : ∀ k o d, ops[k]? = some o → E.testBit k = true → listed.getD k false = false → o.dst = some d → d ∉ o.looksAt ops ∧ ∀ j q, ops[j]? = some q → E.testBit j = true → listed.getD j false = false → k ≠ j → q.dst ≠ some d ∧ (d ∈ q.looksAt ops → (anc j).testBit k = true)

section
variable {P : Program} {B : Nat} {w0 : Base} {ops : Array Oper} {anc : Nat → Nat}
theorem namesB_spec {k : Nat} {o : Oper} (ho : ops[k]? = some o) {d : Tmp} (h : namesB ops k d = false) : d ∉ o.looksAt ops ∧ o.dst ≠ some d := by
  unfold namesB looks dstAt at h
  rw [ho] at h
  rw [Bool.or_eq_false_iff] at h
  dsimp only at h
  refine ⟨fun hm => ?_, fun he => ?_⟩
  · rw [memN_iff.2 hm] at h; cases h.1
  · have := h.2
    rw [he] at this
    dsimp only at this
    rw [Tr.beq_iff.2 (rfl : d = d)] at this
    cases this
theorem all_range {n : Nat} {f : Nat → Bool} (h : (List.range n).all f = true) {k : Nat} (hk : k < n) : f k = true := List.all_eq_true.1 h k (List.mem_range.2 hk)
theorem lt_of_get {k : Nat} {o : Oper} (h : ops[k]? = some o) : k < ops.size := (Array.getElem?_eq_some_iff.1 h).1
/-- what the evaluator does next, and the world later -/
theorem Inv.add {E : Nat} {gh : Nat → Option Nat} {listed : Array Bool} {ρ : Ren} {A A2 : AW} {w : World} {t t' : Array Value} (h : Inv P B w0 ops anc E gh listed ρ A w t t') {i : Nat} {o : Oper} (ho : ops[i]? = some o) (hq : quietOk ops anc E i = true)
    (hle : A.le A2) (hsr : SR P B w0 ρ A2 w) {v : Value} {g : Option Nat} (hg : ∀ b, g = some b → ρ b = none ∧ (∀ x, ¬ w0.Γ b x) ∧ (∃ x, A2.heap.get b = some x) ∧ A.heap.get b = none)
    (hp : ∀ t2 gh2, gh2 i = g → (∀ d, d ∈ o.looksAt ops → t2[d]? = t[d]?) → holds t2 o.dst v → Pend P w0.gl ops gh2 A2 t2 i o) :
    Inv P B w0 ops anc (E ||| 2 ^ i) (fun k => if k = i then g else gh k) listed ρ A2 w (putA t o.dst v) t' := by
  unfold quietOk at hq
  rw [ho] at hq
  simp only [Bool.and_eq_true, Bool.not_eq_true'] at hq
  obtain ⟨⟨⟨hnE, hdeps⟩, hfresh⟩, hdata⟩ := hq
  have hE : ∀ k, (E ||| 2 ^ i).testBit k = true → k = i ∨ (k ≠ i ∧ E.testBit k = true) := by
    intro k hk
    rw [testBit_or_pow, Bool.or_eq_true, decide_eq_true_eq] at hk
    by_cases hki : k = i
    · exact .inl hki
    · rcases hk with hk | hk
      · exact .inr ⟨hki, hk⟩
      · exact absurd hk.symm hki
  have hself : ∀ d, o.dst = some d → d ∉ o.looksAt ops := by
    intro d hd hm
    rw [hd] at hfresh
    simp only [Bool.and_eq_true, Bool.not_eq_true'] at hfresh
    rw [memN_iff.2 hm] at hfresh
    cases hfresh.1
  have hold : ∀ d, o.dst = some d → ∀ k q, ops[k]? = some q → E.testBit k = true → d ∉ q.looksAt ops ∧ q.dst ≠ some d := by
    intro d hd k q hk hEk
    rw [hd] at hfresh
    simp only [Bool.and_eq_true, Bool.not_eq_true'] at hfresh
    have := all_range hfresh.2 (lt_of_get hk)
    rw [hEk] at this
    simp only [Bool.not_true, Bool.false_or, Bool.not_eq_true'] at this
    exact namesB_spec hk this
  have hanc : ∀ k q d, ops[k]? = some q → E.testBit k = true → q.dst = some d → d ∈ o.looksAt ops → (anc i).testBit k = true := by
    intro k q d hk hEk hd hm
    have := all_range hdata (lt_of_get hk)
    rw [hEk] at this
    simp only [Bool.not_true, Bool.false_or, Bool.or_eq_true] at this
    rcases this with this | this
    · exact this
    · unfold dstAt at this
      rw [hk] at this
      dsimp only at this
      rw [hd] at this
      dsimp only at this
      rw [memN_iff.2 hm] at this
      cases this
  have hput : ∀ d, o.dst ≠ some d → (putA t o.dst v)[d]? = t[d]? := fun d hd => putA_get t o.dst v d hd
  refine ⟨hsr, by rw [putA_size]; exact h.size, h.lsz, fun k hk => ?_, h.clo, fun d hd x x' hx hx' => ?_, fun k q hk hEk hl => ?_, fun k b hEk hl hgk => ?_, fun k k' b hEk hl hEk' hl' hgk hgk' => ?_, fun k q d hk hEk hl hd => ?_⟩
  · rw [testBit_or_pow, h.sub k hk]; rfl
  · by_cases hoi : o.dst = some d
    · -- the slot is written by i, which is not done by the world
      by_cases hli : listed.getD i false = true
      · exact absurd (h.sub i hli) (by rw [hnE]; decide)
      · exact absurd hoi (hd i o ho (by rw [testBit_or_pow]; simp) (by simpa using hli))
    · rw [hput d hoi] at hx
      exact h.slots d (fun k q hk hEk hl => hd k q hk (by rw [testBit_or_pow, hEk]; rfl) hl) x x' hx hx'
  · rcases hE k hEk with rfl | ⟨hki, hEk2⟩
    · rw [ho] at hk; injection hk with hk; subst hk
      refine hp _ _ (if_pos rfl) (fun d hd => hput d fun he => hself d he hd) (putA_self t o.dst v)
    · refine (h.pend k q hk hEk2 hl).keep hle (if_neg hki) (fun d hd => hput d fun he => (hold d he k q hk hEk2).1 hd) (fun d hd => hput d fun he => (hold d he k q hk hEk2).2 hd)
  · rcases hE k hEk with rfl | ⟨hki, hEk2⟩
    · rw [if_pos rfl] at hgk
      obtain ⟨g1, g2, g3, _⟩ := hg b hgk
      exact ⟨g1, g2, g3⟩
    · rw [if_neg hki] at hgk
      obtain ⟨g1, g2, x, g3⟩ := h.ghn k b hEk2 hl hgk
      exact ⟨g1, g2, x, hle _ _ g3⟩
  · rcases hE k hEk with rfl | ⟨hki, hEk2⟩
    · rcases hE k' hEk' with rfl | ⟨hki', hEk2'⟩
      · rfl
      · rw [if_pos rfl] at hgk
        rw [if_neg hki'] at hgk'
        obtain ⟨_, _, x, g3⟩ := h.ghn k' b hEk2' hl' hgk'
        rw [(hg b hgk).2.2.2] at g3; cases g3
    · rcases hE k' hEk' with rfl | ⟨hki', hEk2'⟩
      · rw [if_pos rfl] at hgk'
        rw [if_neg hki] at hgk
        obtain ⟨_, _, x, g3⟩ := h.ghn k b hEk2 hl hgk
        rw [(hg b hgk').2.2.2] at g3; cases g3
      · rw [if_neg hki] at hgk
        rw [if_neg hki'] at hgk'
        exact h.ghi k k' b hEk2 hl hEk2' hl' hgk hgk'
  · rcases hE k hEk with rfl | ⟨hki, hEk2⟩
    · rw [ho] at hk; injection hk with hk; subst hk
      refine ⟨hself d hd, fun j r hj hEj hlj hne => ?_⟩
      rcases hE j hEj with rfl | ⟨_, hEj⟩
      · exact absurd rfl hne
      · obtain ⟨g1, g2⟩ := hold d hd j r hj hEj
        exact ⟨g2, fun hm => absurd hm g1⟩
    · refine ⟨(h.fr k q d hk hEk2 hl hd).1, fun j r hj hEj hlj hne => ?_⟩
      rcases hE j hEj with rfl | ⟨_, hEj⟩
      · rw [ho] at hj; injection hj with hj; subst hj
        exact ⟨fun he => (hold d he k q hk hEk2).2 hd, hanc k q d hk hEk2 hd⟩
      · exact (h.fr k q d hk hEk2 hl hd).2 j r hj hEj hlj hne
/-- .. which the world does now -/
theorem Inv.done {E : Nat} {gh : Nat → Option Nat} {listed : Array Bool} {ρ : Ren} {A : AW} {w : World} {t t' : Array Value} (h : Inv P B w0 ops anc E gh listed ρ A w t t') {j : Nat} {o : Oper} (ho : ops[j]? = some o) (hE : E.testBit j = true) (hl : listed.getD j false = false)
    (hafter : ∀ e ∈ o.after, Region.binds .any e = true → listed.getD e.on false = true) {ρ' : Ren} {w' : World} (hle : ρ.le ρ') (hsr : SR P B w0 ρ' A w') {v v' : Value} (hv : VR ρ' v v') (hh : holds t o.dst v)
    (hgn : ∀ b, ρ b = none → gh j ≠ some b → ρ' b = none) : Inv P B w0 ops anc E gh (listed.setIfInBounds j true) ρ' A w' t (putA t' o.dst v') := by
  have hjl : j < listed.size := by rw [h.lsz]; exact lt_of_get ho
  have hset : ∀ k, (listed.setIfInBounds j true).getD k false = true → k = j ∨ listed.getD k false = true := by
    intro k hk
    by_cases hkj : k = j
    · exact .inl hkj
    · rw [getD_set_ne false (fun e => hkj e.symm)] at hk; exact .inr hk
  have hback : ∀ k, (listed.setIfInBounds j true).getD k false = false → k ≠ j ∧ listed.getD k false = false := by
    intro k hk
    by_cases hkj : k = j
    · subst hkj
      simp [hjl] at hk
    · rw [getD_set_ne false (fun e => hkj e.symm)] at hk; exact ⟨hkj, hk⟩
  refine ⟨hsr, by rw [putA_size]; exact h.size, by simp [h.lsz], fun k hk => ?_, fun k q hk hkq e he hb => ?_, fun d hd x x' hx hx' => ?_, fun k q hk hEk hlk => ?_, fun k b hEk hlk hgk => ?_, fun k k' b hEk hlk hEk' hlk' hgk hgk' => ?_, fun k q d hk hEk hlk hd => ?_⟩
  · rcases hset k hk with rfl | hk
    · exact hE
    · exact h.sub k hk
  · rcases hset k hk with rfl | hk
    · rw [ho] at hkq; injection hkq with hkq; subst hkq
      exact getD_set_true (hafter e he hb)
    · exact getD_set_true (h.clo k q hk hkq e he hb)
  · by_cases hoj : o.dst = some d
    · have e1 := hh d x hoj hx
      have e2 := putA_self t' o.dst v' d x' hoj hx'
      rw [e1, e2]; exact hv
    · rw [putA_get t' o.dst v' d hoj] at hx'
      refine (h.slots d (fun k q hk hEk hlk => ?_) x x' hx hx').mono hle
      by_cases hkj : k = j
      · subst hkj
        rw [ho] at hk; injection hk with hk; subst hk
        exact hoj
      · exact hd k q hk hEk (by rw [getD_set_ne false (fun e => hkj e.symm)]; exact hlk)
  · exact h.pend k q hk hEk (hback k hlk).2
  · obtain ⟨hkj, hlk⟩ := hback k hlk
    obtain ⟨g1, g2, g3⟩ := h.ghn k b hEk hlk hgk
    exact ⟨hgn b g1 (fun e => hkj (h.ghi k j b hEk hlk hE hl hgk e)), g2, g3⟩
  · exact h.ghi k k' b hEk (hback k hlk).2 hEk' (hback k' hlk').2 hgk hgk'
  · obtain ⟨f1, f2⟩ := h.fr k q d hk hEk (hback k hlk).2 hd
    exact ⟨f1, fun j2 r hj2 hEj hlj hne => f2 j2 r hj2 hEj (hback j2 hlj).2 hne⟩
end
end Go.Proofs.YtnneooidkbhbeaaGreatDoor.Sim
