/- A verified evaluator, part Q: a drawn region goes as its plan. Of no program. -/
import Derived.Test.YtfeppmhcpfccfaaGreatDoorSimP
import Derived.RangeFuncRecord
set_option linter.unusedVariables false
set_option linter.unusedSimpArgs false
namespace Go.Proofs.YtfeppmhcpfccfaaGreatDoor.Sim
open Go Go.RowKit

/-- what the world has not done yet it would do as it was done -/
def Pend (P : Program) (gl : Nat → Bool) (ops : Array Oper) (gh : Nat → Option Nat) (A : AW) (t : Array Value) (k : Nat) (o : Oper) : Prop :=
  (Region.wanted o (yielded ops t) = false ∧ holds t o.dst undef ∧ gh k = none) ∨
  (Region.wanted o (yielded ops t) = true ∧ glOp gl o = true ∧ ∃ v, quietA P (ev t) A o = some (.val v) ∧ holds t o.dst v ∧ gh k = none) ∨
  (Region.wanted o (yielded ops t) = true ∧ glOp gl o = true ∧ ∃ c e n b, quietA P (ev t) A o = some (.ghost c e n) ∧ holds t o.dst (ghostV b n) ∧ gh k = some b ∧ A.heap.get b = some ⟨.cells c e (0, 0), false, false⟩)

theorem looksAt_operand {ops : Array Oper} {o : Oper} {d : Tmp} (h : Operand.tmp d ∈ o.op.operands) : d ∈ o.looksAt ops :=
  List.mem_append_left _ (List.mem_filterMap.2 ⟨.tmp d, Array.mem_toList_iff.2 h, rfl⟩)
theorem looksAt_guard {ops : Array Oper} {o : Oper} {g : Nat} {w : Bool} {d : Tmp} (h : o.guard = some (g, w)) (hd : (ops[g]?).bind (·.dst) = some d) : d ∈ o.looksAt ops :=
  List.mem_append_right _ (by rw [h]; simp [hd])
theorem ev_same {t t2 : Array Value} {o : Oper} {ops : Array Oper} (h : ∀ d, d ∈ o.looksAt ops → t2[d]? = t[d]?) : ∀ x ∈ o.op.operands, ev t x = ev t2 x := by
  intro x hx
  cases x with
  | tmp d =>
    show t.getD d undef = t2.getD d undef
    rw [Array.getD_eq_getD_getElem?, Array.getD_eq_getD_getElem?, h d (looksAt_operand hx)]
  | _ => rfl
theorem wanted_same {t t2 : Array Value} {o : Oper} {ops : Array Oper} (h : ∀ d, d ∈ o.looksAt ops → t2[d]? = t[d]?) : Region.wanted o (yielded ops t2) = Region.wanted o (yielded ops t) := by
  unfold Region.wanted
  cases hg : o.guard with
  | none => rfl
  | some gw =>
    obtain ⟨g, w⟩ := gw
    have : yielded ops t2 g = yielded ops t g := by
      unfold yielded
      cases hd : (ops[g]?).bind (·.dst) with
      | none => rfl
      | some d => simp only [Option.bind_some]; rw [h d (looksAt_guard hg hd)]
    simp only [this]
theorem wanted_rel {ρ : Ren} {t t' : Array Value} {o : Oper} {ops : Array Oper} (hs : t.size = t'.size) (h : ∀ d, d ∈ o.looksAt ops → ∀ v v', t[d]? = some v → t'[d]? = some v' → VR ρ v v') : Region.wanted o (yielded ops t') = Region.wanted o (yielded ops t) := by
  unfold Region.wanted
  cases hg : o.guard with
  | none => rfl
  | some gw =>
    obtain ⟨g, w⟩ := gw
    have : yielded ops t' g = yielded ops t g := by
      unfold yielded
      cases hd : (ops[g]?).bind (·.dst) with
      | none => rfl
      | some d =>
        simp only [Option.bind_some]
        by_cases hlt : d < t.size
        · rw [Array.getElem?_eq_getElem hlt, Array.getElem?_eq_getElem (hs ▸ hlt)]
          have := h d (looksAt_guard hg hd) _ _ (Array.getElem?_eq_getElem hlt) (Array.getElem?_eq_getElem (hs ▸ hlt))
          generalize t[d] = x at this
          generalize t'[d]'(hs ▸ hlt) = y at this
          cases this <;> rfl
        · have e1 : t[d]? = none := Array.getElem?_eq_none (Nat.le_of_not_lt hlt)
          have e2 : t'[d]? = none := Array.getElem?_eq_none (by rw [← hs]; exact Nat.le_of_not_lt hlt)
          rw [e1, e2]
    simp only [this]
theorem ev_rel' {gl : Nat → Bool} {ρ : Ren} (hG : GlR gl ρ) {t t' : Array Value} {o : Oper} {ops : Array Oper} (hs : t.size = t'.size) (h : ∀ d, d ∈ o.looksAt ops → ∀ v v', t[d]? = some v → t'[d]? = some v' → VR ρ v v') (hgl : glOp gl o = true) (hk : okOp o = true) : ∀ x ∈ o.op.operands, VR ρ (ev t x) (ev t' x) := by
  intro x hx
  have hx2 := okAll hk hx
  cases x with
  | tmp d =>
    show VR ρ (t.getD d undef) (t'.getD d undef)
    rw [Array.getD_eq_getD_getElem?, Array.getD_eq_getD_getElem?]
    by_cases hlt : d < t.size
    · rw [Array.getElem?_eq_getElem hlt, Array.getElem?_eq_getElem (hs ▸ hlt)]
      exact h d (looksAt_operand hx) _ _ (Array.getElem?_eq_getElem hlt) (Array.getElem?_eq_getElem (hs ▸ hlt))
    · have e1 : t[d]? = none := Array.getElem?_eq_none (Nat.le_of_not_lt hlt)
      have e2 : t'[d]? = none := Array.getElem?_eq_none (by rw [← hs]; exact Nat.le_of_not_lt hlt)
      rw [e1, e2]
      exact undef_rel ρ
  | const v => exact free_rel ρ hx2
  | global g => exact glo_rel hG (glAll hgl hx)
  | func f => exact VR.mkFunc _ rfl (AR.empty ρ) (AR.empty ρ)
theorem putA_get (t : Array Value) (d : Option Tmp) (v : Value) (i : Nat) (h : d ≠ some i) : (putA t d v)[i]? = t[i]? := by
  cases d with
  | none => rfl
  | some d =>
    show (t.setIfInBounds d v)[i]? = _
    rw [Array.getElem?_setIfInBounds, if_neg (fun e => h (by rw [e]))]
theorem putA_size (t : Array Value) (d : Option Tmp) (v : Value) : (putA t d v).size = t.size := by
  cases d with
  | none => rfl
  | some d => exact Array.size_setIfInBounds
theorem putA_self (t : Array Value) (d : Option Tmp) (v : Value) : holds (putA t d v) d v := by
  intro i x hd hx
  subst hd
  have : (t.setIfInBounds i v)[i]? = some x := hx
  rw [Array.getElem?_setIfInBounds, if_pos rfl] at this
  split at this
  · injection this with this; exact this.symm
  · cases this
theorem Pend.keep {P : Program} {gl : Nat → Bool} {ops : Array Oper} {gh gh2 : Nat → Option Nat} {A A2 : AW} {t t2 : Array Value} {k : Nat} {o : Oper} (hA : A.le A2) (hg : gh2 k = gh k) (h1 : ∀ d, d ∈ o.looksAt ops → t2[d]? = t[d]?) (h2 : ∀ d, o.dst = some d → t2[d]? = t[d]?) (h : Pend P gl ops gh A t k o) : Pend P gl ops gh2 A2 t2 k o := by
  have hh : ∀ v, holds t o.dst v → holds t2 o.dst v := fun v hv i x hi hx => hv i x hi (by rw [← h2 i hi]; exact hx)
  have hq : ∀ q, quietA P (ev t) A o = some q → quietA P (ev t2) A2 o = some q := fun q h => by
    rw [← quietA_congr o (ev_same h1)]; exact quietA_le hA h
  rcases h with ⟨q1, q2, q3⟩ | ⟨q1, q0, v, q2, q3, q4⟩ | ⟨q1, q0, c, e, n, b, q2, q3, q4, q5⟩
  · exact .inl ⟨(wanted_same h1).trans q1, hh _ q2, hg.trans q3⟩
  · exact .inr (.inl ⟨(wanted_same h1).trans q1, q0, v, hq _ q2, hh _ q3, hg.trans q4⟩)
  · exact .inr (.inr ⟨(wanted_same h1).trans q1, q0, c, e, n, b, hq _ q2, hh _ q3, hg.trans q4, hA _ _ q5⟩)

/-- the world lags behind -/
structure Inv (P : Program) (B : Nat) (w0 : Base) (ops : Array Oper) (anc : Nat → Nat) (E : Nat) (gh : Nat → Option Nat) (listed : Array Bool) (ρ : Ren) (A : AW) (w : World) (t t' : Array Value) : Prop where
  sr : SR P B w0 ρ A w
  size : t.size = t'.size
  lsz : listed.size = ops.size
  sub : ∀ k, listed.getD k false = true → E.testBit k = true
  clo : ∀ k o, listed.getD k false = true → ops[k]? = some o → ∀ e ∈ o.after, Region.binds .any e = true → listed.getD e.on false = true
  slots : ∀ d, (∀ k o, ops[k]? = some o → E.testBit k = true → listed.getD k false = false → o.dst ≠ some d) → ∀ v v', t[d]? = some v → t'[d]? = some v' → VR ρ v v'
  pend : ∀ k o, ops[k]? = some o → E.testBit k = true → listed.getD k false = false → Pend P w0.gl ops gh A t k o
  ghn : ∀ k b, E.testBit k = true → listed.getD k false = false → gh k = some b → ρ b = none ∧ (∀ x, ¬ w0.Γ b x) ∧ ∃ x, A.heap.get b = some x
  ghi : ∀ k k' b, E.testBit k = true → listed.getD k false = false → E.testBit k' = true → listed.getD k' false = false → gh k = some b → gh k' = some b → k = k'
  fr : ∀ k o d, ops[k]? = some o → E.testBit k = true → listed.getD k false = false → o.dst = some d → d ∉ o.looksAt ops ∧ ∀ j q, ops[j]? = some q → E.testBit j = true → listed.getD j false = false → k ≠ j → q.dst ≠ some d ∧ (d ∈ q.looksAt ops → (anc j).testBit k = true)

section
variable {P : Program} {B : Nat} {w0 : Base} {ops : Array Oper} {anc : Nat → Nat}
theorem namesB_spec {k : Nat} {o : Oper} (ho : ops[k]? = some o) {d : Tmp} (h : namesB ops k d = false) : d ∉ o.looksAt ops ∧ o.dst ≠ some d := by
  unfold namesB looks dstAt at h
  rw [ho] at h
  rw [Bool.or_eq_false_iff] at h
  dsimp only at h
  refine ⟨fun hm => ?_, fun he => ?_⟩
  · rw [memN_iff.2 hm] at h; cases h.1
  · have := h.2
    rw [he] at this
    dsimp only at this
    rw [Tr.beq_iff.2 (rfl : d = d)] at this
    cases this
theorem all_range {n : Nat} {f : Nat → Bool} (h : (List.range n).all f = true) {k : Nat} (hk : k < n) : f k = true := List.all_eq_true.1 h k (List.mem_range.2 hk)
theorem lt_of_get {k : Nat} {o : Oper} (h : ops[k]? = some o) : k < ops.size := (Array.getElem?_eq_some_iff.1 h).1
/-- what the evaluator does next, and the world later -/
theorem Inv.add {E : Nat} {gh : Nat → Option Nat} {listed : Array Bool} {ρ : Ren} {A A2 : AW} {w : World} {t t' : Array Value} (h : Inv P B w0 ops anc E gh listed ρ A w t t') {i : Nat} {o : Oper} (ho : ops[i]? = some o) (hq : quietOk ops anc E i = true)
    (hle : A.le A2) (hsr : SR P B w0 ρ A2 w) {v : Value} {g : Option Nat} (hg : ∀ b, g = some b → ρ b = none ∧ (∀ x, ¬ w0.Γ b x) ∧ (∃ x, A2.heap.get b = some x) ∧ A.heap.get b = none)
    (hp : ∀ t2 gh2, gh2 i = g → (∀ d, d ∈ o.looksAt ops → t2[d]? = t[d]?) → holds t2 o.dst v → Pend P w0.gl ops gh2 A2 t2 i o) :
    Inv P B w0 ops anc (E ||| 2 ^ i) (fun k => if k = i then g else gh k) listed ρ A2 w (putA t o.dst v) t' := by
  unfold quietOk at hq
  rw [ho] at hq
  simp only [Bool.and_eq_true, Bool.not_eq_true'] at hq
  obtain ⟨⟨⟨hnE, hdeps⟩, hfresh⟩, hdata⟩ := hq
  have hE : ∀ k, (E ||| 2 ^ i).testBit k = true → k = i ∨ (k ≠ i ∧ E.testBit k = true) := by
    intro k hk
    rw [testBit_or_pow, Bool.or_eq_true, decide_eq_true_eq] at hk
    by_cases hki : k = i
    · exact .inl hki
    · rcases hk with hk | hk
      · exact .inr ⟨hki, hk⟩
      · exact absurd hk.symm hki
  have hself : ∀ d, o.dst = some d → d ∉ o.looksAt ops := by
    intro d hd hm
    rw [hd] at hfresh
    simp only [Bool.and_eq_true, Bool.not_eq_true'] at hfresh
    rw [memN_iff.2 hm] at hfresh
    cases hfresh.1
  have hold : ∀ d, o.dst = some d → ∀ k q, ops[k]? = some q → E.testBit k = true → d ∉ q.looksAt ops ∧ q.dst ≠ some d := by
    intro d hd k q hk hEk
    rw [hd] at hfresh
    simp only [Bool.and_eq_true, Bool.not_eq_true'] at hfresh
    have := all_range hfresh.2 (lt_of_get hk)
    rw [hEk] at this
    simp only [Bool.not_true, Bool.false_or, Bool.not_eq_true'] at this
    exact namesB_spec hk this
  have hanc : ∀ k q d, ops[k]? = some q → E.testBit k = true → q.dst = some d → d ∈ o.looksAt ops → (anc i).testBit k = true := by
    intro k q d hk hEk hd hm
    have := all_range hdata (lt_of_get hk)
    rw [hEk] at this
    simp only [Bool.not_true, Bool.false_or, Bool.or_eq_true] at this
    rcases this with this | this
    · exact this
    · unfold dstAt at this
      rw [hk] at this
      dsimp only at this
      rw [hd] at this
      dsimp only at this
      rw [memN_iff.2 hm] at this
      cases this
  have hput : ∀ d, o.dst ≠ some d → (putA t o.dst v)[d]? = t[d]? := fun d hd => putA_get t o.dst v d hd
  refine ⟨hsr, by rw [putA_size]; exact h.size, h.lsz, fun k hk => ?_, h.clo, fun d hd x x' hx hx' => ?_, fun k q hk hEk hl => ?_, fun k b hEk hl hgk => ?_, fun k k' b hEk hl hEk' hl' hgk hgk' => ?_, fun k q d hk hEk hl hd => ?_⟩
  · rw [testBit_or_pow, h.sub k hk]; rfl
  · by_cases hoi : o.dst = some d
    · -- the slot is written by i, which is not done by the world
      by_cases hli : listed.getD i false = true
      · exact absurd (h.sub i hli) (by rw [hnE]; decide)
      · exact absurd hoi (hd i o ho (by rw [testBit_or_pow]; simp) (by simpa using hli))
    · rw [hput d hoi] at hx
      exact h.slots d (fun k q hk hEk hl => hd k q hk (by rw [testBit_or_pow, hEk]; rfl) hl) x x' hx hx'
  · rcases hE k hEk with rfl | ⟨hki, hEk2⟩
    · rw [ho] at hk; injection hk with hk; subst hk
      refine hp _ _ (if_pos rfl) (fun d hd => hput d fun he => hself d he hd) (putA_self t o.dst v)
    · refine (h.pend k q hk hEk2 hl).keep hle (if_neg hki) (fun d hd => hput d fun he => (hold d he k q hk hEk2).1 hd) (fun d hd => hput d fun he => (hold d he k q hk hEk2).2 hd)
  · rcases hE k hEk with rfl | ⟨hki, hEk2⟩
    · rw [if_pos rfl] at hgk
      obtain ⟨g1, g2, g3, _⟩ := hg b hgk
      exact ⟨g1, g2, g3⟩
    · rw [if_neg hki] at hgk
      obtain ⟨g1, g2, x, g3⟩ := h.ghn k b hEk2 hl hgk
      exact ⟨g1, g2, x, hle _ _ g3⟩
  · rcases hE k hEk with rfl | ⟨hki, hEk2⟩
    · rcases hE k' hEk' with rfl | ⟨hki', hEk2'⟩
      · rfl
      · rw [if_pos rfl] at hgk
        rw [if_neg hki'] at hgk'
        obtain ⟨_, _, x, g3⟩ := h.ghn k' b hEk2' hl' hgk'
        rw [(hg b hgk).2.2.2] at g3; cases g3
    · rcases hE k' hEk' with rfl | ⟨hki', hEk2'⟩
      · rw [if_pos rfl] at hgk'
        rw [if_neg hki] at hgk
        obtain ⟨_, _, x, g3⟩ := h.ghn k b hEk2 hl hgk
        rw [(hg b hgk').2.2.2] at g3; cases g3
      · rw [if_neg hki] at hgk
        rw [if_neg hki'] at hgk'
        exact h.ghi k k' b hEk2 hl hEk2' hl' hgk hgk'
  · rcases hE k hEk with rfl | ⟨hki, hEk2⟩
    · rw [ho] at hk; injection hk with hk; subst hk
      refine ⟨hself d hd, fun j r hj hEj hlj hne => ?_⟩
      rcases hE j hEj with rfl | ⟨_, hEj⟩
      · exact absurd rfl hne
      · obtain ⟨g1, g2⟩ := hold d hd j r hj hEj
        exact ⟨g2, fun hm => absurd hm g1⟩
    · refine ⟨(h.fr k q d hk hEk2 hl hd).1, fun j r hj hEj hlj hne => ?_⟩
      rcases hE j hEj with rfl | ⟨_, hEj⟩
      · rw [ho] at hj; injection hj with hj; subst hj
        exact ⟨fun he => (hold d he k q hk hEk2).2 hd, hanc k q d hk hEk2 hd⟩
      · exact (h.fr k q d hk hEk2 hl hd).2 j r hj hEj hlj hne
/-- .. which the world does now -/
theorem Inv.done {E : Nat} {gh : Nat → Option Nat} {listed : Array Bool} {ρ : Ren} {A : AW} {w : World} {t t' : Array Value} (h : Inv P B w0 ops anc E gh listed ρ A w t t') {j : Nat} {o : Oper} (ho : ops[j]? = some o) (hE : E.testBit j = true) (hl : listed.getD j false = false)
    (hafter : ∀ e ∈ o.after, Region.binds .any e = true → listed.getD e.on false = true) {ρ' : Ren} {w' : World} (hle : ρ.le ρ') (hsr : SR P B w0 ρ' A w') {v v' : Value} (hv : VR ρ' v v') (hh : holds t o.dst v)
    (hgn : ∀ b, ρ b = none → gh j ≠ some b → ρ' b = none) : Inv P B w0 ops anc E gh (listed.setIfInBounds j true) ρ' A w' t (putA t' o.dst v') := by
  have hjl : j < listed.size := by rw [h.lsz]; exact lt_of_get ho
  have hset : ∀ k, (listed.setIfInBounds j true).getD k false = true → k = j ∨ listed.getD k false = true := by
    intro k hk
    by_cases hkj : k = j
    · exact .inl hkj
    · rw [getD_set_ne false (fun e => hkj e.symm)] at hk; exact .inr hk
  have hback : ∀ k, (listed.setIfInBounds j true).getD k false = false → k ≠ j ∧ listed.getD k false = false := by
    intro k hk
    by_cases hkj : k = j
    · subst hkj
      simp [hjl] at hk
    · rw [getD_set_ne false (fun e => hkj e.symm)] at hk; exact ⟨hkj, hk⟩
  refine ⟨hsr, by rw [putA_size]; exact h.size, by simp [h.lsz], fun k hk => ?_, fun k q hk hkq e he hb => ?_, fun d hd x x' hx hx' => ?_, fun k q hk hEk hlk => ?_, fun k b hEk hlk hgk => ?_, fun k k' b hEk hlk hEk' hlk' hgk hgk' => ?_, fun k q d hk hEk hlk hd => ?_⟩
  · rcases hset k hk with rfl | hk
    · exact hE
    · exact h.sub k hk
  · rcases hset k hk with rfl | hk
    · rw [ho] at hkq; injection hkq with hkq; subst hkq
      exact getD_set_true (hafter e he hb)
    · exact getD_set_true (h.clo k q hk hkq e he hb)
  · by_cases hoj : o.dst = some d
    · have e1 := hh d x hoj hx
      have e2 := putA_self t' o.dst v' d x' hoj hx'
      rw [e1, e2]; exact hv
    · rw [putA_get t' o.dst v' d hoj] at hx'
      refine (h.slots d (fun k q hk hEk hlk => ?_) x x' hx hx').mono hle
      by_cases hkj : k = j
      · subst hkj
        rw [ho] at hk; injection hk with hk; subst hk
        exact hoj
      · exact hd k q hk hEk (by rw [getD_set_ne false (fun e => hkj e.symm)]; exact hlk)
  · exact h.pend k q hk hEk (hback k hlk).2
  · obtain ⟨hkj, hlk⟩ := hback k hlk
    obtain ⟨g1, g2, g3⟩ := h.ghn k b hEk hlk hgk
    exact ⟨hgn b g1 (fun e => hkj (h.ghi k j b hEk hlk hE hl hgk e)), g2, g3⟩
  · exact h.ghi k k' b hEk (hback k hlk).2 hEk' (hback k' hlk').2 hgk hgk'
  · obtain ⟨f1, f2⟩ := h.fr k q d hk hEk (hback k hlk).2 hd
    exact ⟨f1, fun j2 r hj2 hEj hlj hne => f2 j2 r hj2 hEj (hback j2 hlj).2 hne⟩
end
end Go.Proofs.YtfeppmhcpfccfaaGreatDoor.Sim
/- A verified evaluator, part R: a drawn region ends as its plan does, whatever the order. Of no program. -/
namespace Go.Proofs.YtfeppmhcpfccfaaGreatDoor.Sim
open Go Go.RowKit

section
variable {P : Program} {B : Nat} {w0 : Base} {ops : Array Oper} {anc : Nat → Nat}
theorem quietA_ghost_mem {t : Operand → Value} {A : AW} {o : Oper} {c : Array Value} {e : TypeId} {n : Option (Nat × Nat)} (h : quietA P t A o = some (.ghost c e n)) : memK o = false := by
  cases hm : memK o with
  | false => rfl
  | true =>
    unfold quietA at h
    cases hk : okOp o with
    | false => rw [hk] at h; cases h
    | true =>
      rw [hk, cond_true] at h
      have hg : ghostA P t o = none := by
        unfold ghostA
        unfold memK at hm
        split at hm
        · rename_i he; rw [he]
        · rename_i he; rw [he]
        · rename_i he; rw [he]
        · cases hm
      rw [hg] at h
      cases hc : cls t o with
      | pure => rw [hc] at h; dsimp only at h; cases hx : opQ P t o <;> rw [hx] at h <;> cases h
      | mem => rw [hc] at h; dsimp only at h; cases hx : opM P t A o <;> rw [hx] at h <;> cases h
      | ghost => rw [hc] at h; cases h
theorem ancOf_spec {k : Nat} : ∀ {l : List Edge}, (ancOf anc l).testBit k = true → ∃ e ∈ l, Region.binds .any e = true ∧ (e.on = k ∨ (anc e.on).testBit k = true)
  | [], h => by simp [ancOf] at h
  | e :: l, h => by
    simp only [ancOf] at h
    cases hb : Region.binds .any e with
    | false =>
      rw [hb, cond_false] at h
      obtain ⟨x, h1, h2⟩ := ancOf_spec h
      exact ⟨x, List.mem_cons_of_mem _ h1, h2⟩
    | true =>
      rw [hb, cond_true, Nat.testBit_or, testBit_or_pow] at h
      simp only [Bool.or_eq_true, decide_eq_true_eq] at h
      rcases h with (h | h) | h
      · obtain ⟨x, h1, h2⟩ := ancOf_spec h
        exact ⟨x, List.mem_cons_of_mem _ h1, h2⟩
      · exact ⟨e, List.mem_cons_self, hb, .inl h⟩
      · exact ⟨e, List.mem_cons_self, hb, .inr h⟩
theorem ancOk_spec (h : ancOk ops anc = true) {i : Nat} {o : Oper} (ho : ops[i]? = some o) : anc i = ancOf anc o.after.toList ∧ ∀ e ∈ o.after, Region.binds .any e = true → e.on < i := by
  unfold ancOk at h
  have := all_range h (lt_of_get ho)
  rw [ho] at this
  simp only [Bool.and_eq_true] at this
  refine ⟨Tr.beq_iff.1 this.1, fun e he hb => ?_⟩
  have h2 := List.all_eq_true.1 this.2 e (Array.mem_toList_iff.2 he)
  rw [hb] at h2
  simp only [Bool.not_true, Bool.false_or] at h2
  exact Nat.le_of_ble_eq_true h2
theorem anc_listed (hanc : ancOk ops anc = true) {listed : Array Bool} (hclo : ∀ k o, listed.getD k false = true → ops[k]? = some o → ∀ e ∈ o.after, Region.binds .any e = true → listed.getD e.on false = true) (k : Nat) :
    ∀ (i : Nat) (o : Oper), ops[i]? = some o → (∀ e ∈ o.after, Region.binds .any e = true → listed.getD e.on false = true) → (anc i).testBit k = true → listed.getD k false = true := by
  intro i
  induction i using Nat.strongRecOn with
  | ind i ih =>
    intro o ho hdep ht
    obtain ⟨h1, h2⟩ := ancOk_spec hanc ho
    rw [h1] at ht
    obtain ⟨e, he, hb, hx⟩ := ancOf_spec ht
    have he' : e ∈ o.after := Array.mem_toList_iff.1 he
    rcases hx with hx | hx
    · rw [← hx]; exact hdep e he' hb
    · have hlt := h2 e he' hb
      have hlt2 : e.on < ops.size := Nat.lt_trans hlt (lt_of_get ho)
      exact ih e.on hlt _ (Array.getElem?_eq_getElem hlt2) (fun e2 h3 h4 => hclo e.on _ (hdep e he' hb) (Array.getElem?_eq_getElem hlt2) e2 h3 h4) hx
theorem all_listed (hanc : ancOk ops anc = true) {listed : Array Bool} (hsz : listed.size = ops.size) (hr : Region.ready .any ops listed = []) : ∀ (k : Nat), k < ops.size → listed.getD k false = true := by
  intro k
  induction k using Nat.strongRecOn with
  | ind k ih =>
    intro hk
    cases hl : listed.getD k false with
    | true => rfl
    | false =>
      have hin : k ∈ Region.ready .any ops listed := by
        rw [mem_ready]
        refine ⟨?_, _, Array.getElem?_eq_getElem hk, fun e he hb => ?_⟩
        · rw [Array.getD_eq_getD_getElem?, Array.getElem?_eq_getElem (hsz ▸ hk)] at hl ⊢
          exact hl
        · obtain ⟨_, h2⟩ := ancOk_spec hanc (Array.getElem?_eq_getElem hk)
          have := h2 e he hb
          exact ih e.on this (Nat.lt_trans this hk)
      rw [hr] at hin
      cases hin
theorem depsB_spec {o : Oper} {E : Nat} (h : depsB o E = true) : ∀ e ∈ o.after, Region.binds .any e = true → E.testBit e.on = true := by
  intro e he hb
  have := List.all_eq_true.1 h e (Array.mem_toList_iff.2 he)
  rw [hb] at this
  simpa using this
/-- a loud operation that the world does -/
theorem Inv.loud {E : Nat} {gh : Nat → Option Nat} {listed : Array Bool} {ρ : Ren} {A : AW} {w : World} {t t' : Array Value} (h : Inv P B w0 ops anc E gh listed ρ A w t t') {i : Nat} {o : Oper} (ho : ops[i]? = some o) (hnE : E.testBit i = false)
    (hafter : ∀ e ∈ o.after, Region.binds .any e = true → listed.getD e.on false = true) {ρ' : Ren} {A' : AW} {w' : World} (hle : ρ.le ρ') (hsr : SR P B w0 ρ' A' w') {v v' : Value} (hv : VR ρ' v v')
    (hp : ∀ k q, ops[k]? = some q → E.testBit k = true → listed.getD k false = false → Pend P w0.gl ops gh A' (putA t o.dst v) k q)
    (hgn : ∀ k b, E.testBit k = true → listed.getD k false = false → gh k = some b → ρ' b = none ∧ ∃ x, A'.heap.get b = some x) :
    Inv P B w0 ops anc (E ||| 2 ^ i) gh (listed.setIfInBounds i true) ρ' A' w' (putA t o.dst v) (putA t' o.dst v') := by
  have hil : i < listed.size := by rw [h.lsz]; exact lt_of_get ho
  have hset : ∀ k, (listed.setIfInBounds i true).getD k false = true → k = i ∨ listed.getD k false = true := by
    intro k hk
    by_cases hki : k = i
    · exact .inl hki
    · rw [getD_set_ne false (fun e => hki e.symm)] at hk; exact .inr hk
  have hback : ∀ k, (E ||| 2 ^ i).testBit k = true → (listed.setIfInBounds i true).getD k false = false → E.testBit k = true ∧ listed.getD k false = false := by
    intro k hE hk
    by_cases hki : k = i
    · subst hki
      simp [hil] at hk
    · rw [getD_set_ne false (fun e => hki e.symm)] at hk
      rw [testBit_or_pow] at hE
      simp only [Bool.or_eq_true, decide_eq_true_eq] at hE
      rcases hE with hE | hE
      · exact ⟨hE, hk⟩
      · exact absurd hE.symm hki
  refine ⟨hsr, by rw [putA_size, putA_size]; exact h.size, by simp [h.lsz], fun k hk => ?_, fun k q hk hkq e he hb => ?_, fun d hd x x' hx hx' => ?_, fun k q hk hEk hlk => ?_, fun k b hEk hlk hgk => ?_, fun k k' b hEk hlk hEk' hlk' hgk hgk' => ?_, fun k q d hk hEk hlk hd => ?_⟩
  · rw [testBit_or_pow]
    rcases hset k hk with rfl | hk
    · simp
    · rw [h.sub k hk]; rfl
  · rcases hset k hk with rfl | hk
    · rw [ho] at hkq; injection hkq with hkq; subst hkq
      exact getD_set_true (hafter e he hb)
    · exact getD_set_true (h.clo k q hk hkq e he hb)
  · by_cases hoi : o.dst = some d
    · rw [putA_self t o.dst v d x hoi hx, putA_self t' o.dst v' d x' hoi hx']; exact hv
    · rw [putA_get t o.dst v d hoi] at hx
      rw [putA_get t' o.dst v' d hoi] at hx'
      refine (h.slots d (fun k q hk hEk hlk => ?_) x x' hx hx').mono hle
      refine hd k q hk (by rw [testBit_or_pow, hEk]; rfl) ?_
      rw [getD_set_ne false (fun e => by subst e; rw [hnE] at hEk; cases hEk)]; exact hlk
  · obtain ⟨g1, g2⟩ := hback k hEk hlk
    exact hp k q hk g1 g2
  · obtain ⟨g1, g2⟩ := hback k hEk hlk
    obtain ⟨q1, q2⟩ := hgn k b g1 g2 hgk
    exact ⟨q1, (h.ghn k b g1 g2 hgk).2.1, q2⟩
  · obtain ⟨g1, g2⟩ := hback k hEk hlk
    obtain ⟨g1', g2'⟩ := hback k' hEk' hlk'
    exact h.ghi k k' b g1 g2 g1' g2' hgk hgk'
  · obtain ⟨g1, g2⟩ := hback k hEk hlk
    obtain ⟨f1, f2⟩ := h.fr k q d hk g1 g2 hd
    refine ⟨f1, fun j r hj hEj hlj hne => ?_⟩
    obtain ⟨g3, g4⟩ := hback j hEj hlj
    exact f2 j r hj g3 g4 hne
/-- the evaluator goes on to the next loud operation -/
theorem settle (G : Good P) {K : Array Value → AW → Prop} {listed : Array Bool} {ρ : Ren} {w : World} {t' : Array Value} : ∀ (s : List PS) (E : Nat) (gh : Nat → Option Nat) (A : AW) (t : Array Value), Inv P B w0 ops anc E gh listed ρ A w t t' → okPlan ops anc s E = true → planW P B w0 ops K s t A →
    ∃ s2 E2 gh2 A2 t2, (s2 = [] ∨ (∃ i re s3, s2 = .loud i re :: s3) ∨ ∃ i j ri rj s3, s2 = .pair i j ri rj :: s3) ∧ Inv P B w0 ops anc E2 gh2 listed ρ A2 w t2 t' ∧ okPlan ops anc s2 E2 = true ∧ planW P B w0 ops K s2 t2 A2
  | [], E, gh, A, t, h, hok, hp => ⟨[], E, gh, A, t, .inl rfl, h, hok, hp⟩
  | .loud i re :: s, E, gh, A, t, h, hok, hp => ⟨_, E, gh, A, t, .inr (.inl ⟨i, re, s, rfl⟩), h, hok, hp⟩
  | .pair i j ri rj :: s, E, gh, A, t, h, hok, hp => ⟨_, E, gh, A, t, .inr (.inr ⟨i, j, ri, rj, s, rfl⟩), h, hok, hp⟩
  | .quiet i :: s, E, gh, A, t, h, hok, hp => by
    simp only [okPlan, Bool.and_eq_true] at hok
    obtain ⟨hq, hok⟩ := hok
    simp only [planW] at hp
    cases ho : ops[i]? with
    | none => rw [ho] at hp; exact hp.elim
    | some o =>
      rw [ho] at hp
      dsimp only at hp
      have self : ∀ t2 : Array Value, (∀ d, d ∈ o.looksAt ops → t2[d]? = t[d]?) → Region.wanted o (yielded ops t2) = Region.wanted o (yielded ops t) := fun t2 h1 => wanted_same h1
      cases hw : Region.wanted o (yielded ops t) with
      | false =>
        rw [hw, cond_false] at hp
        have hi := h.add ho hq (A2 := A) (fun b x hx => hx) h.sr (v := undef) (g := none) (fun b hb => by cases hb) (fun t2 gh2 h1 h2 h3 => .inl ⟨(self t2 h2).trans hw, h3, h1⟩)
        exact settle G s _ _ A _ hi hok hp
      | true =>
        rw [hw, cond_true] at hp
        obtain ⟨hgl, hp⟩ := hp
        cases hqa : quietA P (ev t) A o with
        | none => rw [hqa] at hp; exact hp.elim
        | some q =>
          rw [hqa] at hp
          cases q with
          | val v =>
            dsimp only at hp
            have hi := h.add ho hq (A2 := A) (fun b x hx => hx) h.sr (v := v) (g := none) (fun b hb => by cases hb) (fun t2 gh2 h1 h2 h3 => .inr (.inl ⟨(self t2 h2).trans hw, hgl, v, by rw [← quietA_congr o (ev_same h2)]; exact hqa, h3, h1⟩))
            exact settle G s _ _ A _ hi hok hp
          | ghost c e n =>
            dsimp only at hp
            obtain ⟨hr1, hr2, hp⟩ := hp
            have hle : A.le (A.add ⟨.cells c e (0, 0), false, false⟩) := by
              intro b x hx
              rw [add_get h.sr.room, if_neg (Nat.ne_of_lt (h.sr.lt b x hx))]
              exact hx
            have hnew : (A.add ⟨.cells c e (0, 0), false, false⟩).heap.get A.next = some ⟨.cells c e (0, 0), false, false⟩ := by rw [add_get h.sr.room, if_pos rfl]
            have hi := h.add ho hq hle (h.sr.ghost hr1 _) (v := ghostV A.next n) (g := some A.next) (fun b hb => ?_) (fun t2 gh2 h1 h2 h3 => .inr (.inr ⟨(self t2 h2).trans hw, hgl, c, e, n, A.next, quietA_le hle (by rw [← quietA_congr o (ev_same h2)]; exact hqa), h3, h1, hnew⟩))
            · exact settle G s _ _ _ _ hi hok hp
            · injection hb with hb; subst hb
              have hfr : A.heap.get A.next = none := by
                cases hx : A.heap.get A.next with
                | none => rfl
                | some x => exact absurd (h.sr.lt _ x hx) (Nat.lt_irrefl _)
              exact ⟨h.sr.fresh, fun x hx => Nat.lt_irrefl _ (h.sr.lt _ _ (h.sr.off _ x hx).2), ⟨_, hnew⟩, hfr⟩
theorem loudOk_notE {E i : Nat} {re : List Nat} {more : Nat} (h : loudOk ops anc E i re more = true) : ∃ o, ops[i]? = some o ∧ E.testBit i = false := by
  unfold loudOk at h
  cases ho : ops[i]? with
  | none => rw [ho] at h; cases h
  | some o =>
    rw [ho] at h
    simp only [Bool.and_eq_true, Bool.not_eq_true'] at h
    exact ⟨o, rfl, h.1.1⟩
/-- a loud operation comes up in the world -/
theorem loud_any (G : Good P) (hanc : ancOk ops anc = true) {Q : Exit → Act → World → Prop} (ds : List Deferred) {J : Array Value → AW → Prop} {E : Nat} {gh : Nat → Option Nat} {listed : Array Bool} {ρ : Ren} {A : AW} {w : World} {t t' : Array Value} {i : Nat} {o : Oper} {re : List Nat} {more : Nat} {R : Act → World → Prop}
    (h : Inv P B w0 ops anc E gh listed ρ A w t t') (ho : ops[i]? = some o) (hafter : ∀ e ∈ o.after, Region.binds .any e = true → listed.getD e.on false = true) (hE : E.testBit i = false) (hlo : loudOk ops anc E i re more = true)
    (hp : loudW P B w0 ops i re J t A)
    (hR : ∀ ρ' A' w' t2 t2', ρ.le ρ' → J t2 A' → Inv P B w0 ops anc (E ||| 2 ^ i) gh (listed.setIfInBounds i true) ρ' A' w' t2 t2' → R ⟨t2', ds⟩ w') :
    if Region.wanted o (yielded ops t') then o.wpIn w0.F 0 P ⟨t', ds⟩ w R Q else R ⟨putA t' o.dst undef, ds⟩ w := by
  have hancL : ∀ k, (anc i).testBit k = true → listed.getD k false = true := fun k hk => anc_listed hanc h.clo k i o ho hafter hk
  unfold loudOk at hlo
  rw [ho] at hlo
  simp only [Bool.and_eq_true, Bool.not_eq_true'] at hlo
  obtain ⟨⟨hnE, hdeps⟩, hsc⟩ := hlo
  have hfar : ∀ k q, ops[k]? = some q → E.testBit k = true → listed.getD k false = false → (∀ d, q.dst = some d → d ∉ o.looksAt ops) ∧ (∀ d, o.dst = some d → d ∉ q.looksAt ops ∧ q.dst ≠ some d) ∧ (memK q = true → k ∈ re) := by
    intro k q hk hEk hlk
    have := all_range hsc (lt_of_get hk)
    rw [hEk, cond_true, Bool.or_eq_true] at this
    rcases this with this | this
    · have := hancL k this
      rw [this] at hlk; cases hlk
    · simp only [Bool.and_eq_true] at this
      obtain ⟨⟨a1, a2⟩, a3⟩ := this
      refine ⟨fun d hd hm => ?_, fun d hd => ?_, fun hm => ?_⟩
      · unfold dstAt at a1
        rw [hk] at a1
        dsimp only at a1
        rw [hd] at a1
        dsimp only at a1
        rw [memN_iff.2 hm] at a1
        cases a1
      · rw [hd] at a2
        dsimp only at a2
        rw [Bool.not_eq_true'] at a2
        exact namesB_spec hk a2
      · rw [hk] at a3
        dsimp only at a3
        rw [hm] at a3
        exact memN_iff.1 a3
  have hlooks : ∀ d, d ∈ o.looksAt ops → ∀ v v', t[d]? = some v → t'[d]? = some v' → VR ρ v v' := fun d hd =>
    h.slots d fun k q hk hEk hlk hdk => (hfar k q hk hEk hlk).1 d hdk hd
  have hw := wanted_rel (o := o) h.size hlooks
  have hkeep : ∀ k q, ops[k]? = some q → E.testBit k = true → listed.getD k false = false → ∀ v, (∀ d, d ∈ q.looksAt ops → (putA t o.dst v)[d]? = t[d]?) ∧ (∀ d, q.dst = some d → (putA t o.dst v)[d]? = t[d]?) := by
    intro k q hk hEk hlk v
    obtain ⟨_, f2, _⟩ := hfar k q hk hEk hlk
    exact ⟨fun d hd => putA_get _ _ _ _ fun he => (f2 d he).1 hd, fun d hd => putA_get _ _ _ _ fun he => (f2 d he).2 hd⟩
  rw [hw]
  unfold loudW at hp
  rw [ho] at hp
  dsimp only at hp
  cases hwt : Region.wanted o (yielded ops t) with
  | false =>
    rw [hwt, cond_false] at hp
    rw [if_neg (by decide)]
    refine hR ρ A w _ _ (Ren.le_refl _) hp (h.loud ho hE hafter (Ren.le_refl _) h.sr (undef_rel ρ) (fun k q hk hEk hlk => ?_) (fun k b hEk hlk hgk => ?_))
    · obtain ⟨k1, k2⟩ := hkeep k q hk hEk hlk undef
      exact (h.pend k q hk hEk hlk).keep (fun b x hx => hx) rfl k1 k2
    · obtain ⟨n1, _, n3⟩ := h.ghn k b hEk hlk hgk
      exact ⟨n1, n3⟩
  | true =>
    rw [hwt, cond_true] at hp
    rw [if_pos rfl]
    have hops := fun hk => ev_rel' (o := o) h.sr.glo h.size hlooks hp.1 hk
    let Γ : Nat → ABk → Prop := fun b x => w0.Γ b x ∨ ∃ k, E.testBit k = true ∧ listed.getD k false = false ∧ gh k = some b ∧ A.heap.get b = some x
    have hsr1 : SR P B (w0.but Γ) ρ A w := h.sr.rebase Γ fun b x hx => by
      rcases hx with hx | ⟨k, k1, k2, k3, k4⟩
      · exact h.sr.off b x hx
      · exact ⟨(h.ghn k b k1 k2 k3).1, k4⟩
    refine step_sound G hsr1 ds hops hp fun ρ' v v' A' w' g0 g1 g2 g3 => ?_
    have hback : SR P B w0 ρ' A' w' := by
      have := g2.rebase w0.Γ fun b x hx => g2.off b x (.inl hx)
      exact this
    refine hR ρ' A' w' _ _ g1 g0.2 (h.loud ho hE hafter g1 hback g3 (fun k q hk hEk hlk => ?_) (fun k b hEk hlk hgk => ?_))
    · obtain ⟨k1, k2⟩ := hkeep k q hk hEk hlk v
      have hh : ∀ u, holds t q.dst u → holds (putA t o.dst v) q.dst u := fun u hu i x hi hx => hu i x hi (by rw [← k2 i hi]; exact hx)
      rcases h.pend k q hk hEk hlk with ⟨q1, q2, q3⟩ | ⟨q1, q0, u, q2, q3, q4⟩ | ⟨q1, q0, c, e, n, b, q2, q3, q4, q5⟩
      · exact .inl ⟨(wanted_same k1).trans q1, hh _ q2, q3⟩
      · cases hm : memK q with
        | true =>
          obtain ⟨u2, u3, u4⟩ := g0.1 k ((hfar k q hk hEk hlk).2.2 hm) q hk ((wanted_same k1).trans q1)
          exact .inr (.inl ⟨(wanted_same k1).trans q1, q0, u2, u3, u4, q4⟩)
        | false =>
          exact .inr (.inl ⟨(wanted_same k1).trans q1, q0, u, by rw [← quietA_congr q (ev_same k1), ← quietA_mem hm A]; exact q2, hh _ q3, q4⟩)
      · have hm := quietA_ghost_mem q2
        refine .inr (.inr ⟨(wanted_same k1).trans q1, q0, c, e, n, b, by rw [← quietA_congr q (ev_same k1), ← quietA_mem hm A]; exact q2, hh _ q3, q4, ?_⟩)
        exact (g2.off b _ (.inr ⟨k, hEk, hlk, q4, q5⟩)).2
    · obtain ⟨_, _, x, n3⟩ := h.ghn k b hEk hlk hgk
      obtain ⟨o1, o2⟩ := g2.off b x (.inr ⟨k, hEk, hlk, hgk, n3⟩)
      exact ⟨o1, x, o2⟩
theorem loudOk_only {E i : Nat} {re : List Nat} {more : Nat} (hlo : loudOk ops anc E i re more = true) {k : Nat} (hk : k < ops.size) (hE : E.testBit k = false) : k = i ∨ k = more ∨ (anc k).testBit i = true := by
  unfold loudOk at hlo
  cases ho : ops[i]? with
  | none => rw [ho] at hlo; cases hlo
  | some o =>
    rw [ho] at hlo
    simp only [Bool.and_eq_true, Bool.not_eq_true'] at hlo
    have := all_range hlo.2 hk
    rw [hE, cond_false, Bool.or_eq_true, Bool.or_eq_true] at this
    rcases this with (this | this) | this
    · exact .inl (Tr.beq_iff.1 this)
    · exact .inr (.inl (Tr.beq_iff.1 this))
    · exact .inr (.inr this)
theorem plan_any (G : Good P) (hanc : ancOk ops anc = true) {Q : Exit → Act → World → Prop} (ds : List Deferred) {K : Array Value → AW → Prop} : ∀ (fuel : Nat) (rem : List Nat) (listed : Array Bool) (E : Nat) (gh : Nat → Option Nat) (s : List PS) (ρ : Ren) (A : AW) (w : World) (t t' : Array Value),
    Inv P B w0 ops anc E gh listed ρ A w t t' → rem.length = fuel → (∀ k, k < ops.size → listed.getD k false = false → k ∈ rem) → okPlan ops anc s E = true → planW P B w0 ops K s t A →
    (∀ ρ' tf Af t2 w', K tf Af → ρ.le ρ' → AR ρ' tf t2 → SR P B w0 ρ' Af w' → Q .normal ⟨t2, ds⟩ w') → wpAnyIn w0.F 0 P .any ops Q fuel listed ⟨t', ds⟩ w := by
  intro fuel
  have atEnd : ∀ {listed : Array Bool} {E : Nat} {gh : Nat → Option Nat} {s : List PS} {ρ : Ren} {A : AW} {w : World} {t t' : Array Value}, Inv P B w0 ops anc E gh listed ρ A w t t' → (s = [] ∨ (∃ i re s3, s = .loud i re :: s3) ∨ ∃ i j ri rj s3, s = .pair i j ri rj :: s3) → okPlan ops anc s E = true → planW P B w0 ops K s t A →
      (∀ k, k < ops.size → listed.getD k false = true) → (∀ ρ' tf Af t2 w', K tf Af → ρ.le ρ' → AR ρ' tf t2 → SR P B w0 ρ' Af w' → Q .normal ⟨t2, ds⟩ w') → Q .normal ⟨t', ds⟩ w := by
    intro listed E gh s ρ A w t t' h hs hok hp hall hQ
    rcases hs with rfl | ⟨i, re, s3, rfl⟩ | ⟨i, j, ri, rj, s3, rfl⟩
    · refine hQ ρ t A t' w hp (Ren.le_refl _) (AR.of? h.size fun j v v' hv hv' => h.slots j (fun k o hk _ hl => ?_) v v' hv hv') h.sr
      rw [hall k (lt_of_get hk)] at hl; cases hl
    · simp only [okPlan, Bool.and_eq_true] at hok
      obtain ⟨o, ho, hnE⟩ := loudOk_notE hok.1
      have := h.sub i (hall i (lt_of_get ho))
      rw [hnE] at this; cases this
    · simp only [okPlan, Bool.and_eq_true] at hok
      obtain ⟨o, ho, hnE⟩ := loudOk_notE hok.1.1.1.1.2
      have := h.sub i (hall i (lt_of_get ho))
      rw [hnE] at this; cases this
  induction fuel with
  | zero =>
    intro rem listed E gh s ρ A w t t' h0 hlen hrem hok0 hp0 hQ
    obtain ⟨s2, E2, gh2, A2, t2, hs2, h, hok, hp⟩ := settle G s E gh A t h0 hok0 hp0
    have hnil : rem = [] := List.eq_nil_of_length_eq_zero hlen
    have hall : ∀ k, k < ops.size → listed.getD k false = true := by
      intro k hk
      cases hl : listed.getD k false with
      | true => rfl
      | false => have := hrem k hk hl; rw [hnil] at this; cases this
    have hready : Region.ready .any ops listed = [] := by
      cases hrd : Region.ready .any ops listed with
      | nil => rfl
      | cons i l =>
        have hi : i ∈ Region.ready .any ops listed := by rw [hrd]; exact List.mem_cons_self
        obtain ⟨h1, o, h2, _⟩ := mem_ready.1 hi
        have h3 := hall i (lt_of_get h2)
        rw [Array.getD_eq_getD_getElem?, Array.getElem?_eq_getElem (h.lsz ▸ lt_of_get h2)] at h1 h3
        simp only [Option.getD_some] at h1 h3
        rw [h1] at h3; cases h3
    exact ⟨hready, atEnd h hs2 hok hp hall hQ⟩
  | succ fuel ih =>
    intro rem listed E gh s ρ A w t t' h0 hlen hrem hok0 hp0 hQ
    obtain ⟨s2, E2, gh2, A2, t2, hs2, h, hok, hp⟩ := settle G s E gh A t h0 hok0 hp0
    have rem_next : ∀ i, i < ops.size → listed.getD i false = false → ∃ rem2 : List Nat, rem2.length = fuel ∧ ∀ k, k < ops.size → (listed.setIfInBounds i true).getD k false = false → k ∈ rem2 := by
      intro i hi hl
      refine ⟨rem.erase i, by rw [List.length_erase_of_mem (hrem i hi hl), hlen]; rfl, fun k hk hlk => ?_⟩
      have hki : k ≠ i := by
        intro e; subst e
        have : k < listed.size := by rw [h.lsz]; exact hk
        simp [this] at hlk
      rw [getD_set_ne false (fun e => hki e.symm)] at hlk
      exact (List.mem_erase_of_ne hki).2 (hrem k hk hlk)
    refine ⟨fun hready => atEnd h hs2 hok hp (all_listed hanc h.lsz hready) hQ, fun i hi => ?_⟩
    obtain ⟨hl0, o, ho, hafter⟩ := mem_ready.1 hi
    have hisz := lt_of_get ho
    have hl : listed.getD i false = false := by
      rw [Array.getD_eq_getD_getElem?, Array.getElem?_eq_getElem (h.lsz ▸ hisz)] at hl0 ⊢
      exact hl0
    obtain ⟨rem2, hlen2, hrem2⟩ := rem_next i hisz hl
    have hancL : ∀ k, (anc i).testBit k = true → listed.getD k false = true := fun k hk => anc_listed hanc h.clo k i o ho hafter hk
    have hput : ∀ v, (⟨t', ds⟩ : Act).put o.dst v = ⟨putA t' o.dst v, ds⟩ := fun v => put_act t' ds o.dst v
    -- a loud operation, its own plan behind it
    have loud : ∀ (re : List Nat) (more : Nat) (s3 : List PS), E2.testBit i = false → loudOk ops anc E2 i re more = true → okPlan ops anc s3 (E2 ||| 2 ^ i) = true → loudW P B w0 ops i re (planW P B w0 ops K s3) t2 A2 → wpOpIn w0.F 0 P ops Q i (wpAnyIn w0.F 0 P .any ops Q fuel (listed.setIfInBounds i true)) ⟨t', ds⟩ w := by
      intro re more s3 hE hlo hok3 hp3
      unfold wpOpIn
      simp only [ho]
      have := loud_any (Q := Q) G hanc ds (R := fun a w => wpAnyIn w0.F 0 P .any ops Q fuel (listed.setIfInBounds i true) a w) h ho hafter hE hlo hp3 fun ρ' A' w' t3 t3' g1 g2 g3 => ih rem2 _ _ gh2 s3 ρ' A' w' t3 t3' g3 hlen2 hrem2 hok3 g2 fun ρ2 tf Af t4 w2 r0 r1 r2 r3 => hQ ρ2 tf Af t4 w2 r0 (Ren.le_trans g1 r1) r2 r3
      split
      · rename_i hw
        rw [if_pos hw] at this
        exact this
      · rename_i hw
        rw [if_neg hw] at this
        rw [hput]
        exact ⟨fun _ _ => trivial, this⟩
    cases hE : E2.testBit i with
    | true =>
      unfold wpOpIn
      simp only [ho]
      -- a quiet operation that the evaluator has done
      have hlooks : ∀ d, d ∈ o.looksAt ops → ∀ v v', t2[d]? = some v → t'[d]? = some v' → VR ρ v v' := by
        intro d hd
        refine h.slots d fun k q hk hEk hlk hdk => ?_
        obtain ⟨f1, f2⟩ := h.fr k q d hk hEk hlk hdk
        by_cases hki : k = i
        · subst hki
          rw [ho] at hk; injection hk with hk; subst hk
          exact f1 hd
        · have := hancL k ((f2 i o ho hE hl hki).2 hd)
          rw [this] at hlk; cases hlk
      have hw := wanted_rel (o := o) h.size hlooks
      have hops := fun hg hk => ev_rel' (o := o) h.sr.glo h.size hlooks hg hk
      rw [hw]
      rcases h.pend i o ho hE hl with ⟨q1, q2, q3⟩ | ⟨q1, q0, v, q2, q3, q4⟩ | ⟨q1, q0, c, e, n, b, q2, q3, q4, q5⟩
      · rw [q1]
        rw [if_neg (by decide), put_act]
        refine ⟨fun _ _ => trivial, ?_⟩
        exact ih rem2 _ E2 gh2 s2 ρ A2 w t2 _ (h.done ho hE hl hafter (Ren.le_refl _) h.sr (undef_rel ρ) q2 (fun b hb _ => hb)) hlen2 hrem2 hok hp hQ
      · rw [q1]
        rw [if_pos rfl]
        obtain ⟨v', g1, g2⟩ := quiet_val G h.sr (hops q0) q2
        refine ⟨fun _ _ => trivial, ?_⟩
        rw [semAt_run (by rw [eval_ev]; exact g2) (fun d hd => by cases hd), Oper.uponIn_value, put_act]
        exact ih rem2 _ E2 gh2 s2 ρ A2 w t2 _ (h.done ho hE hl hafter (Ren.le_refl _) h.sr g1 q3 (fun b hb _ => hb)) hlen2 hrem2 hok hp hQ
      · rw [q1]
        rw [if_pos rfl]
        obtain ⟨n1, n2, _⟩ := h.ghn i b hE hl q4
        obtain ⟨inf, v', w', g1, g2, g3⟩ := quiet_ghost G h.sr (hops q0) q2 q5 n1 n2
        refine ⟨fun _ _ => trivial, ?_⟩
        rw [semAt_run (by rw [eval_ev]; exact g3) (fun d hd => by cases hd), Oper.uponIn_value, put_act]
        have hle := Ren.le_more (i := inf) n1
        refine ih rem2 _ E2 gh2 s2 _ A2 w' t2 _ (h.done ho hE hl hafter hle g1 g2 q3 (fun b2 hb2 hne => ?_)) hlen2 hrem2 hok hp (fun ρ' tf Af t3 w2 r0 r1 r2 r3 => hQ ρ' tf Af t3 w2 r0 (Ren.le_trans hle r1) r2 r3)
        unfold Ren.more
        rw [if_neg (by intro e2; subst e2; exact hne q4)]
        exact hb2
    | false =>
      rcases hs2 with rfl | ⟨i0, re, s3, rfl⟩ | ⟨i0, j0, ri, rj, s3, rfl⟩
      · have := all_range hok hisz
        rw [hE] at this; cases this
      · simp only [okPlan, Bool.and_eq_true] at hok
        obtain ⟨hlo, hok⟩ := hok
        obtain ⟨o0, ho0, hnE⟩ := loudOk_notE hlo
        have hii : i = i0 := by
          rcases loudOk_only hlo hisz hE with this | this | this
          · exact this
          · exact this
          · have := h.sub i0 (hancL i0 this)
            rw [hnE] at this; cases this
        subst hii
        exact loud re i s3 hE hlo hok hp
      · simp only [okPlan, Bool.and_eq_true, Bool.not_eq_true'] at hok
        obtain ⟨⟨⟨⟨⟨hne, hlo1⟩, hlo2⟩, hlo3, hlo4⟩, hok1⟩, hok2⟩ := hok
        obtain ⟨o0, ho0, hnE⟩ := loudOk_notE hlo1
        obtain ⟨hpi, hpj⟩ := hp
        have hij : i = i0 ∨ i = j0 := by
          rcases loudOk_only hlo1 hisz hE with this | this | this
          · exact .inl this
          · exact .inr this
          · have := h.sub i0 (hancL i0 this)
            rw [hnE] at this; cases this
        rcases hij with rfl | rfl
        · exact loud ri j0 (.loud j0 rj :: s3) hE hlo1 (by simp only [okPlan, Bool.and_eq_true]; exact ⟨hlo3, hok1⟩) hpi
        · exact loud rj i0 (.loud i0 ri :: s3) hE hlo2 (by simp only [okPlan, Bool.and_eq_true]; exact ⟨hlo4, hok2⟩) hpj
/-- a drawn region -/
theorem region_any (G : Good P) (hanc : ancOk ops anc = true) {Q : Exit → Act → World → Prop} (ds : List Deferred) {id : Nat} {s : List PS} {ρ : Ren} {A : AW} {w : World} {t t' : Array Value} {K : Array Value → AW → Prop}
    (h : SR P B w0 ρ A w) (ht : AR ρ t t') (hok : okPlan ops anc s 0 = true) (hp : planW P B w0 ops K s t A) (hQ : ∀ ρ' tf Af t2 w', K tf Af → ρ.le ρ' → AR ρ' tf t2 → SR P B w0 ρ' Af w' → Q .normal ⟨t2, ds⟩ w') : (Code.region id ops true).wpIn w0.F 0 P Q ⟨t', ds⟩ w := by
  refine wpIn_region_any G.mixed ?_
  have h' : SR P B w0 ρ A { w with drawn := w.drawn + 1 } := ⟨⟨h.below.os, h.below.tape, h.below.output, h.below.size, h.below.block⟩, h.low, h.dom, h.room, h.lt, h.off, h.blk, h.apart, h.glo, h.marks⟩
  have hfalse : ∀ k, (Array.replicate ops.size false).getD k false = false := by
    intro k
    rw [Array.getD_eq_getD_getElem?, Array.getElem?_replicate]
    split <;> rfl
  refine plan_any G hanc ds ops.size (List.range ops.size) _ 0 (fun _ => none) s ρ A _ t t' ⟨h', ht.1, by simp, fun k hk => ?_, fun k o hk => ?_, fun d _ v v' hv hv' => ?_, fun k o _ hE => ?_, fun k b hE => ?_, fun k k' b hE => ?_, fun k o d _ hE => ?_⟩ (by simp) (fun k hk _ => List.mem_range.2 hk) hok hp hQ
  · rw [hfalse] at hk; cases hk
  · rw [hfalse] at hk; cases hk
  · obtain ⟨x, h1, h2⟩ := ht.at hv
    rw [h1] at hv'; injection hv' with hv'; subst hv'; exact h2
  · simp at hE
  · simp at hE
  · simp at hE
  · simp at hE
theorem setChan_heap {w : World} {c cap s r : Nat} {buf : Array Value} {cl tm : Bool} {o : Obj} (h : w.heap[c]? = some o) : (w.setChan c cap buf cl s r tm).heap[c]? = some (.chan cap buf cl s r tm) ∧ ∀ k, k ≠ c → (w.setChan c cap buf cl s r tm).heap[k]? = w.heap[k]? :=
  ⟨Conc.heap_setChan w c cap buf cl s r tm (Array.getElem?_eq_some_iff.1 h).1, fun k hk => by simp only [World.setChan]; rw [Array.getElem?_setIfInBounds_ne (fun e => hk e.symm)]⟩
/-- a communication -/
theorem commA_sound {ds : List Deferred} {ρ : Ren} {A : AW} {w : World} {t t' : Array Value} (h : SR P B w0 ρ A w) {o : Oper} (ok : ∀ x ∈ o.op.operands, VR ρ (ev t x) (ev t' x)) {v : Value} {A' : AW} (ha : commA P (ev t) o A = some (v, A')) :
    ∃ v' w', CommTo P w0.F o ⟨t', ds⟩ w v' w' ∧ SR P B w0 ρ A' w' ∧ VR ρ v v' := by
  unfold commA at ha
  split at ha
  · rename_i x y hop
    have hx := ok x (by rw [hop]; simp [Op.operands])
    have hy := ok y (by rw [hop]; simp [Op.operands])
    split at ha
    rotate_left
    · cases ha
    rename_i b hb
    rw [hb] at hx
    split at ha
    rotate_left
    · cases ha
    rename_i cap buf hA
    cases hq : Nat.blt buf.size cap with
    | false => rw [hq] at ha; cases ha
    | true =>
      rw [hq, cond_true] at ha
      injection ha with ha; injection ha with e1 e2; subst e1 e2
      generalize hz : ev t' x = z at hx
      cases hx with
      | chan hi =>
        rename_i i
        obtain ⟨_, o', ho, hor⟩ := h.blk b _ i hA hi
        cases hor with
        | chan hro hbuf =>
          rename_i buf' s r
          have hroom : buf'.size < cap := by rw [← hbuf.1]; exact Nat.le_of_ble_eq_true hq
          have hev : (⟨t', ds⟩ : Act).eval = ev t' := eval_ev t' ds
          refine ⟨undef, w.setChan i.g cap (buf'.push (ev t' y)) false (s + 1) r false, ?_, ?_, undef_rel ρ⟩
          · have := comm_send (P := P) (F := w0.F) (a := ⟨t', ds⟩) hop (by rw [hev]; exact hz) ho hroom
            rw [hev] at this
            exact this
          · exact h.change (o' := .chan cap (buf'.push (ev t' y)) false (s + 1) r false) hA hi hro (.chan hro (hbuf.push hy)) rfl rfl rfl (Conc.size_setChan ..) (setChan_heap ho).1 (setChan_heap ho).2
  · rename_i ty x hop
    have hx := ok x (by rw [hop]; simp [Op.operands])
    split at ha
    rotate_left
    · cases ha
    rename_i dir e b hu hb
    rw [hb] at hx
    split at ha
    rotate_left
    · cases ha
    rename_i ie hie
    split at ha
    rotate_left
    · cases ha
    rename_i z0 hz0
    split at ha
    rotate_left
    · cases ha
    rename_i cap buf hA
    cases hq : Nat.blt 0 buf.size with
    | false => rw [hq] at ha; cases ha
    | true =>
      rw [hq, cond_true] at ha
      injection ha with ha; injection ha with e1 e2; subst e1 e2
      generalize hz : ev t' x = z at hx
      cases hx with
      | chan hi =>
        rename_i i
        obtain ⟨_, o', ho, hor⟩ := h.blk b _ i hA hi
        cases hor with
        | chan hro hbuf =>
          rename_i buf' s r
          have hsome : 0 < buf'.size := by rw [← hbuf.1]; exact Nat.le_of_ble_eq_true hq
          have hev : (⟨t', ds⟩ : Act).eval = ev t' := eval_ev t' ds
          refine ⟨buf'.getD 0 undef, w.setChan i.g cap (buf'.extract 1 buf'.size) false s (r + 1) false, comm_recv (P := P) (F := w0.F) (a := ⟨t', ds⟩) hop hu hie hz0 (by rw [hev]; exact hz) ho hsome, ?_, ?_⟩
          · rw [hbuf.1]
            exact h.change (o' := .chan cap (buf'.extract 1 buf'.size) false s (r + 1) false) hA hi hro (.chan hro (hbuf.extract 1 buf'.size)) rfl rfl rfl (Conc.size_setChan ..) (setChan_heap ho).1 (setChan_heap ho).2
          · rw [Array.getD_eq_getD_getElem?, Array.getD_eq_getD_getElem?]
            rcases hbuf.get? 0 with ⟨q1, q2⟩ | ⟨v1, v2, q1, q2, q3⟩
            · rw [q1, q2]; exact undef_rel ρ
            · rw [q1, q2]; exact q3
  · cases ha
/-- a region in the text's order -/
theorem opsW_sound (G : Good P) {K : Array Value → AW → Prop} {Q : Exit → Act → World → Prop} (ds : List Deferred) : ∀ (l : List Nat) (ρ : Ren) (A : AW) (w : World) (t t' : Array Value), SR P B w0 ρ A w → AR ρ t t' →
    opsW P B w0 ops K l t A → (∀ ρ' tf Af t2 w', K tf Af → ρ.le ρ' → AR ρ' tf t2 → SR P B w0 ρ' Af w' → Q .normal ⟨t2, ds⟩ w') → wpC w0.F 0 P ops Q l ⟨t', ds⟩ w
  | [], ρ, A, w, t, t', h, ht, ha, hQ => hQ ρ t A t' w ha (Ren.le_refl _) ht h
  | i :: rest, ρ, A, w, t, t', h, ht, ha, hQ => by
    simp only [opsW] at ha
    simp only [wpC]
    cases ho : ops[i]? with
    | none =>
      rw [ho] at ha
      exact opsW_sound G ds rest ρ A w t t' h ht ha hQ
    | some o =>
      rw [ho] at ha
      dsimp only at ha ⊢
      rw [yielded_rel ht ops] at ha
      cases hw : Region.wanted o (yielded ops t') with
      | true =>
        rw [hw, cond_true] at ha
        rw [if_pos rfl]
        cases hcm : commB o with
        | true =>
          rw [hcm, cond_true] at ha
          obtain ⟨hgl, hk, v, A', hv, ha⟩ := ha
          obtain ⟨v', w', g1, g2, g3⟩ := commA_sound (ds := ds) (t' := t') h (evs_ok h.glo ht hgl hk) hv
          refine .inr ⟨v', w', g1, ?_⟩
          rw [put_act]
          exact opsW_sound G ds rest ρ A' w' _ _ g2 (putA_rel ht o.dst g3) ha hQ
        | false =>
        rw [hcm, cond_false] at ha
        refine .inl ?_
        cases hl : loudB o with
        | true =>
          rw [hl, cond_true] at ha
          refine step_sound (Γ := w0.Γ) G h ds (evs_ok h.glo ht ha.1) ha fun ρ' v v' A' w' g0 g1 g2 g3 => ?_
          exact opsW_sound G ds rest ρ' A' w' _ _ g2 (putA_rel (ht.mono g1) o.dst g3) g0 (fun ρ2 tf Af t2 w2 q0 q1 q2 q3 => hQ ρ2 tf Af t2 w2 q0 (Ren.le_trans g1 q1) q2 q3)
        | false =>
          rw [hl, cond_false] at ha
          obtain ⟨hgl, ha⟩ := ha
          have hops := evs_ok h.glo ht hgl
          cases hqa : quietA P (ev t) A o with
          | none => rw [hqa] at ha; exact ha.elim
          | some q =>
            rw [hqa] at ha
            cases q with
            | val v =>
              dsimp only at ha
              obtain ⟨v', g1, g2⟩ := quiet_val G h hops hqa
              refine ⟨fun _ _ => trivial, ?_⟩
              rw [semAt_run (by rw [eval_ev]; exact g2) (fun d hd => by cases hd), Oper.uponIn_value, put_act]
              exact opsW_sound G ds rest ρ A w _ _ h (putA_rel ht o.dst g1) ha hQ
            | ghost c e n =>
              dsimp only at ha
              obtain ⟨hr1, hr2, ha⟩ := ha
              have hle : A.le (A.add ⟨.cells c e (0, 0), false, false⟩) := by
                intro b x hx
                rw [add_get h.room, if_neg (Nat.ne_of_lt (h.lt b x hx))]
                exact hx
              have hnew : (A.add ⟨.cells c e (0, 0), false, false⟩).heap.get A.next = some ⟨.cells c e (0, 0), false, false⟩ := by rw [add_get h.room, if_pos rfl]
              obtain ⟨inf, v', w', g1, g2, g3⟩ := quiet_ghost G (h.ghost hr1 _) hops (quietA_le hle hqa) hnew h.fresh (fun x hx => Nat.lt_irrefl _ (h.lt _ _ (h.off _ x hx).2))
              refine ⟨fun _ _ => trivial, ?_⟩
              rw [semAt_run (by rw [eval_ev]; exact g3) (fun d hd => by cases hd), Oper.uponIn_value, put_act]
              have hle2 := Ren.le_more (i := inf) h.fresh
              exact opsW_sound G ds rest _ _ w' _ _ g1 (putA_rel (ht.mono hle2) o.dst g2) ha (fun ρ2 tf Af t2 w2 q0 q1 q2 q3 => hQ ρ2 tf Af t2 w2 q0 (Ren.le_trans hle2 q1) q2 q3)
      | false =>
        rw [hw, cond_false] at ha
        rw [if_neg (by decide), put_act]
        refine ⟨fun _ _ => trivial, ?_⟩
        exact opsW_sound G ds rest ρ A w _ _ h (putA_rel ht o.dst (undef_rel ρ)) ha hQ
end
end Go.Proofs.YtfeppmhcpfccfaaGreatDoor.Sim
/- A verified evaluator, part N: code, calls, the whole. Of no program. -/
namespace Go.Proofs.YtfeppmhcpfccfaaGreatDoor.Sim
open Go Go.RowKit

/-- how code ends -/
inductive AE where
  | normal
  | exit (id : Nat)
  | ret
def AE.up : AE → Exit
  | .normal => .normal
  | .exit id => .exit id
  | .ret => .ret
def resOne (P : Program) (t : Array Value) (A : AW) : ResultVar → Option Value
  | .tmp i => some (t.getD i undef)
  | .cell a ty => match loadL P A ty (t.getD a undef) with
    | some (_, v) => some v
    | none => none
def resAll (P : Program) (t : Array Value) (A : AW) : List ResultVar → Option (List Value)
  | [] => some []
  | r :: rs => match resOne P t A r, resAll P t A rs with
    | some v, some l => some (v :: l)
    | _, _ => none
def resA (P : Program) (fn : Func) (t : Array Value) (A : AW) : Option Value :=
  match resAll P t A fn.results.toList with
  | some [v] => some v
  | some l => some (.tuple l.toArray)
  | none => none

theorem stepR_scope {P : Program} {b : Frame} {a : Act} {k : List Item} {cs : List Frame} {w : World} {c : Code} :
    step P (lone (b.atR a (.code (.scope c) :: k)) cs w) = .next (lone (b.atR a (.code c :: .inScope c :: k)) cs w) :=
  step_lone_go (by simp [stepG, stepG.exec, Frame.atR])
theorem stepR_inScope {P : Program} {b : Frame} {a : Act} {k : List Item} {cs : List Frame} {w : World} {c : Code} :
    step P (lone (b.atR a (.inScope c :: k)) cs w) = .next (lone (b.atR a k) cs w) :=
  step_lone_go (by simp [stepG, stepG.exec, Frame.atR])
theorem wpIn_scope_straight {F : Fence} {n : Nat} {P : Program} {Q : Exit → Act → World → Prop} {a : Act} {w : World} {c : Code} (h : c.wpIn F n P (Exit.noGoto Q) a w) : (Code.scope c).wpIn F n P Q a w := by
  intro b k cs hro hb hr
  have h0 : (lone (b.atR a (.code (.scope c) :: k)) cs w).fenced P F := fenced_calm hb hr rfl
  obtain ⟨e, a₁, w₁, hq, harr⟩ := h b (.inScope c :: k) cs hro hb hr
  cases e with
  | normal => exact ⟨.normal, a₁, w₁, hq, .head h0 stepR_scope (StepsIn.trans harr (.one (fenced_calm hb hr rfl) stepR_inScope))⟩
  | exit id =>
    have hx : exitTo id (.inScope c :: k) = exitTo id k := by simp [exitTo]
    exact ⟨.exit id, a₁, w₁, hq, fun k' hk => .head h0 stepR_scope (harr.1 k' (by rw [hx]; exact hk)),
      fun hr' hk => let ⟨k₁, h1, h2⟩ := harr.2 hr' (by rw [hx]; exact hk); ⟨k₁, h1, .head h0 stepR_scope h2⟩⟩
  | goto l => exact hq.elim
  | ret => exact ⟨_, a₁, w₁, hq, .of_steps (.one h0 stepR_scope) harr⟩
  | panic ch => exact ⟨_, a₁, w₁, hq, .of_steps (.one h0 stepR_scope) harr⟩
  | outgrown => exact ⟨_, a₁, w₁, hq, .of_steps (.one h0 stepR_scope) harr⟩

section
variable {P : Program} {B : Nat} {w0 : Base}
/-- a deferred call's mark -/
def mark (r : Nat) : Deferred := { target := .collected r, args := #[] }
/-- what code does, whatever the world: it runs to an end that K knows of; the marks that it lays stand ahead of the others -/
def WpS (P : Program) (B : Nat) (w0 : Base) (X : (Exit → Act → World → Prop) → Act → World → Prop) (t : Array Value) (A : AW) (K : AE → Array Value → AW → Prop) : Prop :=
  ∀ (Q : Exit → Act → World → Prop) (ds : List Deferred) (Γ : Nat → ABk → Prop) (M : List Nat) (ρ : Ren) (w : World) (t' : Array Value), SR P B ((w0.but Γ).marked M) ρ A w → AR ρ t t' →
    (∀ e ρ' t1 A1 t2 w' M', K e t1 A1 → ρ.le ρ' → AR ρ' t1 t2 → SR P B ((w0.but Γ).marked (M' ++ M)) ρ' A1 w' → Q e.up ⟨t2, M'.map mark ++ ds⟩ w') → X Q ⟨t', ds⟩ w
def CodeS (P : Program) (B : Nat) (w0 : Base) (c : Code) : Array Value → AW → (AE → Array Value → AW → Prop) → Prop := WpS P B w0 (fun Q => c.wpIn w0.F 0 P Q)
theorem CodeS.done {c : Code} {e : AE} (hw : ∀ {Q : Exit → Act → World → Prop} {a : Act} {w : World}, Q e.up a w → c.wpIn w0.F 0 P Q a w) {t : Array Value} {A : AW} {K : AE → Array Value → AW → Prop} (h : K e t A) : CodeS P B w0 c t A K :=
  fun _ _ _ _ ρ w t' hs ht hQ => hw (hQ e ρ t A t' w [] h (Ren.le_refl _) ht hs)
theorem CodeS.skip {t : Array Value} {A : AW} {K : AE → Array Value → AW → Prop} (h : K .normal t A) : CodeS P B w0 .skip t A K := CodeS.done (e := .normal) (fun h => wpIn_skip h) h
theorem CodeS.label {l : Nat} {t : Array Value} {A : AW} {K : AE → Array Value → AW → Prop} (h : K .normal t A) : CodeS P B w0 (.label l) t A K := CodeS.done (e := .normal) (fun h => wpIn_label h) h
theorem CodeS.exit {id : Nat} {t : Array Value} {A : AW} {K : AE → Array Value → AW → Prop} (h : K (.exit id) t A) : CodeS P B w0 (.exit id) t A K := CodeS.done (e := .exit id) (fun h => wpIn_exit h) h
theorem CodeS.ret {t : Array Value} {A : AW} {K : AE → Array Value → AW → Prop} (h : K .ret t A) : CodeS P B w0 .ret t A K := CodeS.done (e := .ret) (fun h => wpIn_ret h) h
theorem CodeS.region (G : Good P) {id : Nat} {ops : Array Oper} {t : Array Value} {A : AW} {K : AE → Array Value → AW → Prop} (h : ∀ Γ M, opsW P B ((w0.but Γ).marked M) ops (K .normal) (List.range ops.size) t A) : CodeS P B w0 (.region id ops false) t A K :=
  fun _ ds Γ M ρ w t' hs ht hQ => wpC_region (opsW_sound (w0 := (w0.but Γ).marked M) (B := B) G ds _ ρ A w t t' hs ht (h Γ M) fun ρ' tf Af t2 w' g0 g1 g2 g3 => hQ .normal ρ' tf Af t2 w' [] g0 g1 g2 g3)
theorem CodeS.drawn (G : Good P) {id : Nat} {ops : Array Oper} {anc : Nat → Nat} {s : List PS} (hanc : ancOk ops anc = true) (hok : okPlan ops anc s 0 = true) {t : Array Value} {A : AW} {K : AE → Array Value → AW → Prop} (h : ∀ Γ M, planW P B ((w0.but Γ).marked M) ops (K .normal) s t A) : CodeS P B w0 (.region id ops true) t A K :=
  fun _ ds Γ M _ _ _ hs ht hQ => region_any (w0 := (w0.but Γ).marked M) (B := B) G hanc ds hs ht hok (h Γ M) fun ρ' tf Af t2 w' g0 g1 g2 g3 => hQ .normal ρ' tf Af t2 w' [] g0 g1 g2 g3
theorem marks_app {Q : Exit → Act → World → Prop} {e : Exit} {t : Array Value} {M1 M2 : List Nat} {ds : List Deferred} {w : World} (h : Q e ⟨t, (M2 ++ M1).map mark ++ ds⟩ w) : Q e ⟨t, M2.map mark ++ (M1.map mark ++ ds)⟩ w := by
  rw [List.map_append, List.append_assoc] at h
  exact h
theorem CodeS.seq {a b : Code} {t : Array Value} {A : AW} {K : AE → Array Value → AW → Prop} (h : CodeS P B w0 a t A fun e t1 A1 => match e with
    | .normal => CodeS P B w0 b t1 A1 K
    | e => K e t1 A1) : CodeS P B w0 (.seq a b) t A K :=
  fun Q ds Γ M ρ w t' hs ht hQ => wpIn_seq (h (Exit.then (b.wpIn w0.F 0 P Q) Q) ds Γ M ρ w t' hs ht fun e ρ' t1 A1 t2 w' M1 g0 g1 g2 g3 => by
    cases e with
    | normal => exact g0 Q (M1.map mark ++ ds) Γ (M1 ++ M) ρ' w' t2 g3 g2 fun e2 ρ2 t3 A3 t4 w4 M2 q0 q1 q2 q3 => marks_app (hQ e2 ρ2 t3 A3 t4 w4 (M2 ++ M1) q0 (Ren.le_trans g1 q1) q2 (by rw [List.append_assoc]; exact q3))
    | exit id => exact hQ (.exit id) ρ' t1 A1 t2 w' M1 g0 g1 g2 g3
    | ret => exact hQ .ret ρ' t1 A1 t2 w' M1 g0 g1 g2 g3)
theorem CodeS.cond {x : Operand} {a b : Code} {t : Array Value} {A : AW} {K : AE → Array Value → AW → Prop} (hx : okX x = true) (hg : glX w0.gl x = true) {q : Bool} (hv : ev t x = .bool q) (h : (bif q then CodeS P B w0 a t A K else CodeS P B w0 b t A K)) : CodeS P B w0 (.cond x a b) t A K :=
  fun Q ds Γ M ρ w t' hs ht hQ => by
    have hr := ev_rel ht hs.glo hx hg
    rw [hv] at hr
    cases q with
    | true => exact wpIn_cond_true (by rw [eval_ev]; generalize ev t' x = z at hr; cases hr; rfl) (h Q ds Γ M ρ w t' hs ht hQ)
    | false => exact wpIn_cond_false (by rw [eval_ev]; generalize ev t' x = z at hr; cases hr; rfl) (h Q ds Γ M ρ w t' hs ht hQ)
theorem CodeS.block {id : Nat} {b : Code} {t : Array Value} {A : AW} {K : AE → Array Value → AW → Prop} (h : CodeS P B w0 b t A fun e t1 A1 => match e with
    | .exit i => bif Nat.beq i id then K .normal t1 A1 else K (.exit i) t1 A1
    | e => K e t1 A1) : CodeS P B w0 (.block id b) t A K :=
  fun Q ds Γ M ρ w t' hs ht hQ => wpIn_block (h (Exit.inBlock id Q) ds Γ M ρ w t' hs ht fun e ρ' t1 A1 t2 w' M1 g0 g1 g2 g3 => by
    cases e with
    | normal => exact hQ .normal ρ' t1 A1 t2 w' M1 g0 g1 g2 g3
    | ret => exact hQ .ret ρ' t1 A1 t2 w' M1 g0 g1 g2 g3
    | exit i =>
      show (if i = id then Q .normal _ w' else Q (.exit i) _ w')
      dsimp only at g0
      by_cases hid : i = id
      · rw [if_pos hid]; rw [Tr.beq_iff.2 hid, cond_true] at g0; exact hQ .normal ρ' t1 A1 t2 w' M1 g0 g1 g2 g3
      · rw [if_neg hid]; rw [Tr.beq_false hid, cond_false] at g0; exact hQ (.exit i) ρ' t1 A1 t2 w' M1 g0 g1 g2 g3)
theorem CodeS.scope {b : Code} {t : Array Value} {A : AW} {K : AE → Array Value → AW → Prop} (h : CodeS P B w0 b t A K) : CodeS P B w0 (.scope b) t A K :=
  fun Q ds Γ M ρ w t' hs ht hQ => wpIn_scope_straight (h (Exit.noGoto Q) ds Γ M ρ w t' hs ht fun e ρ' t1 A1 t2 w' M1 g0 g1 g2 g3 => by
    have := hQ e ρ' t1 A1 t2 w' M1 g0 g1 g2 g3
    cases e <;> exact this)
/-- so many rounds of a loop at most -/
def RoundS (P : Program) (B : Nat) (w0 : Base) (b : Code) (n : Nat) : Array Value → AW → (AE → Array Value → AW → Prop) → Prop := WpS P B w0 (fun Q => Code.roundsIn w0.F 0 P b Q n)
theorem RoundS.succ {b : Code} {n : Nat} {t : Array Value} {A : AW} {K : AE → Array Value → AW → Prop} (h : CodeS P B w0 b t A fun e t1 A1 => match e with
    | .normal => RoundS P B w0 b n t1 A1 K
    | e => K e t1 A1) : RoundS P B w0 b (n + 1) t A K :=
  fun Q ds Γ M ρ w t' hs ht hQ => by
    show Code.roundsIn w0.F 0 P b Q (n + 1) ⟨t', ds⟩ w
    rw [roundsIn_succ]
    refine h (Exit.then (Code.roundsIn w0.F 0 P b Q n) Q) ds Γ M ρ w t' hs ht fun e ρ' t1 A1 t2 w' M1 g0 g1 g2 g3 => ?_
    cases e with
    | normal => exact g0 Q (M1.map mark ++ ds) Γ (M1 ++ M) ρ' w' t2 g3 g2 fun e2 ρ2 t3 A3 t4 w4 M2 q0 q1 q2 q3 => marks_app (hQ e2 ρ2 t3 A3 t4 w4 (M2 ++ M1) q0 (Ren.le_trans g1 q1) q2 (by rw [List.append_assoc]; exact q3))
    | exit id => exact hQ (.exit id) ρ' t1 A1 t2 w' M1 g0 g1 g2 g3
    | ret => exact hQ .ret ρ' t1 A1 t2 w' M1 g0 g1 g2 g3
theorem CodeS.loop {b : Code} (n : Nat) {t : Array Value} {A : AW} {K : AE → Array Value → AW → Prop} (h : RoundS P B w0 b n t A K) : CodeS P B w0 (.loop b) t A K :=
  fun Q ds Γ M ρ w t' hs ht hQ => wpIn_loop_rounds n (h Q ds Γ M ρ w t' hs ht hQ)
theorem getD_rel {ρ : Ren} {t t' : Array Value} (h : AR ρ t t') (i : Nat) : VR ρ (t.getD i undef) (t'.getD i undef) := ev_rel (x := .tmp i) (gl := fun _ => false) h (fun g hg => by cases hg) rfl rfl
def resF (t : Array Value) : ResultVar → Sem Value
  | .tmp i => pure (t.getD i undef)
  | .cell a ty => do loadVar ty (← asAddr (t.getD a undef))
theorem mapM_run {f : ResultVar → Sem Value} {r : ResultVar} {rs : List ResultVar} {w : World} {v : Value} {l : List Value} (h1 : (f r).run P w = .ok v w) (h2 : (rs.mapM f).run P w = .ok l w) : ((r :: rs).mapM f).run P w = .ok (v :: l) w := by
  rw [List.mapM_cons]
  simp only [Bind.bind]
  rw [run_bind P _ _ w w v h1, run_bind P _ _ w w l h2]
  rfl
theorem resAll_sound {ρ : Ren} {A : AW} {w : World} {t t' : Array Value} (h : SR P B w0 ρ A w) (ht : AR ρ t t') : ∀ (rs : List ResultVar) (l : List Value), resAll P t A rs = some l →
    ∃ l', LR ρ l l' ∧ (rs.mapM (resF t')).run P w = .ok l' w
  | [], l, hl => by
    simp only [resAll] at hl
    injection hl with hl; subst hl
    exact ⟨[], LR.nil ρ, by rw [List.mapM_nil]; rfl⟩
  | r :: rs, l, hl => by
    simp only [resAll] at hl
    split at hl
    · rename_i v l2 h1 h2
      injection hl with hl; subst hl
      obtain ⟨l', g1, g2⟩ := resAll_sound h ht rs l2 h2
      cases r with
      | tmp i =>
        simp only [resOne] at h1
        injection h1 with h1; subst h1
        exact ⟨_ :: l', LR.cons (getD_rel ht i) g1, mapM_run rfl g2⟩
      | cell a ty =>
        simp only [resOne] at h1
        split at h1
        · rename_i hd v2 hx
          injection h1 with h1; subst h1
          obtain ⟨b, o, ll⟩ := hd
          have hp := getD_rel ht a
          obtain ⟨i2, l3, v', q1, q2, q3, q4, q5⟩ := loadL_sound h hp hx
          have hrun := q5 w q3
          have hpp : ∃ ad, t'.getD a undef = .pointer (some ad) := by
            generalize t'.getD a undef = z at hp
            generalize t.getD a undef = y at hp hx
            cases hp with
            | ptr => exact ⟨_, rfl⟩
            | _ => cases hx
          obtain ⟨ad, had⟩ := hpp
          rw [had] at hrun
          refine ⟨v' :: l', LR.cons q4 g1, mapM_run ?_ g2⟩
          show (do loadVar ty (← asAddr (t'.getD a undef)) : Sem Value).run P w = _
          rw [had]
          exact hrun
        · cases h1
    · cases hl
theorem resA_sound {ρ : Ren} {A : AW} {w : World} {t t' : Array Value} (h : SR P B w0 ρ A w) (ht : AR ρ t t') {fn : Func} {v : Value} (hv : resA P fn t A = some v) : ∃ v', VR ρ v v' ∧ (results fn t').run P w = .ok v' w := by
  unfold resA at hv
  cases hl : resAll P t A fn.results.toList with
  | none => rw [hl] at hv; cases hv
  | some l =>
    obtain ⟨l', g1, g2⟩ := resAll_sound h ht _ l hl
    have hm : (fn.results.mapM (resF t')).run P w = .ok l'.toArray w := by
      rw [Array.mapM_eq_mapM_toList]
      show (Sem.bind _ _).run P w = _
      exact (run_bind P _ _ w w l' g2).trans rfl
    rw [hl] at hv
    have hF : results fn t' = (fn.results.mapM (resF t') >>= fun vs => pure (if h : vs.size = 1 then vs[0] else .tuple vs)) := by
      unfold results
      congr 1
    have hres : (results fn t').run P w = .ok (if h : l'.toArray.size = 1 then l'.toArray[0] else .tuple l'.toArray) w := by
      rw [hF]
      show (Sem.bind _ _).run P w = _
      exact (run_bind P _ _ w w l'.toArray hm).trans rfl
    have hlen := g1.1
    match l, l', g1, hlen, hv, hres with
    | [x], [y], g1, _, hv, hres =>
      injection hv with hv; subst hv
      exact ⟨y, g1.2 0 x y rfl rfl, hres⟩
    | [], [], g1, _, hv, hres =>
      injection hv with hv; subst hv
      exact ⟨_, VR.mkTuple g1.toAR, hres⟩
    | x1 :: x2 :: xs, y1 :: y2 :: ys, g1, _, hv, hres =>
      injection hv with hv; subst hv
      exact ⟨_, VR.mkTuple g1.toAR, hres⟩

/-- marks that are come to -/
theorem SR.taken {ρ : Ren} {A : AW} {w : World} {r : Nat} {M : List Nat} (h : SR P B (w0.marked (r :: M)) ρ A w) : SR P B (w0.marked M) ρ A (w.putObj r (.deferred none)) := by
  obtain ⟨hnd, hm⟩ := h.marks
  obtain ⟨m1, m2, m3⟩ := hm r (.head _)
  have hnd' := List.nodup_cons.1 (show (r :: M).Nodup from hnd)
  refine ⟨⟨h.below.os, h.below.tape, h.below.output, by rw [World.putObj_size]; exact h.below.size, fun k hk => (World.putObj_heap_other (by omega)).trans (h.below.block k hk)⟩, h.low, h.dom, h.room, h.lt, h.off, fun b x i hb hi => ?_, h.apart, h.glo, hnd'.2, fun r' hr' => ?_⟩
  · obtain ⟨g1, o', g2, g3⟩ := h.blk b x i hb hi
    exact ⟨g1, o', (World.putObj_heap_other (m3 b x i hb hi)).trans g2, g3⟩
  · obtain ⟨q1, q2, q3⟩ := hm r' (.tail _ hr')
    exact ⟨q1, (World.putObj_heap_other (by intro e; subst e; exact hnd'.1 hr')).trans q2, q3⟩
theorem SR.unmark {ρ : Ren} {A : AW} {w : World} {M1 M : List Nat} (h : SR P B (w0.marked (M1 ++ M)) ρ A w) : SR P B (w0.marked M) ρ A w :=
  ⟨h.below, h.low, h.dom, h.room, h.lt, h.off, h.blk, h.apart, h.glo, (List.nodup_append.1 (show (M1 ++ M).Nodup from h.marks.1)).2.1, fun r hr => h.marks.2 r (List.mem_append.2 (.inr hr))⟩
/-- a mark more -/
theorem SR.marked {ρ : Ren} {A : AW} {w : World} {M : List Nat} (h : SR P B (w0.marked M) ρ A w) : SR P B (w0.marked (w.heap.size :: M)) ρ A (w.alloc (.deferred (some []))) := by
  have hold : ∀ k, k < w.heap.size → (w.alloc (.deferred (some []))).heap[k]? = w.heap[k]? := fun k hk => (Go.MapKept.heap_alloc w _).2 k hk
  have hB := Nat.le_trans h.low h.below.size
  refine ⟨⟨h.below.os, h.below.tape, h.below.output, Nat.le_trans h.below.size (by simp), fun k hk => (hold k (by omega)).trans (h.below.block k hk)⟩, h.low, h.dom, h.room, h.lt, h.off, fun b x i hb hi => ?_, h.apart, h.glo, List.nodup_cons.2 ⟨fun hm => Nat.lt_irrefl _ (h.mkOld hm), h.marks.1⟩, fun r hr => ?_⟩
  · obtain ⟨g1, o', g2, g3⟩ := h.blk b x i hb hi
    exact ⟨g1, o', (hold _ (Array.getElem?_eq_some_iff.1 g2).1).trans g2, g3⟩
  · rcases List.mem_cons.1 hr with rfl | hr
    · exact ⟨hB, (Go.MapKept.heap_alloc w _).1, fun b x i hb hi => Nat.ne_of_lt (h.old hb hi)⟩
    · obtain ⟨q1, q2, q3⟩ := h.marks.2 r hr
      exact ⟨q1, (hold _ (h.mkOld hr)).trans q2, q3⟩
theorem leave_marks {ρ : Ren} {A : AW} {fn : Func} {tmps : Array Value} {R : Ending → World → Prop} {M : List Nat} : ∀ (M1 : List Nat) (w : World), SR P B (w0.marked (M1 ++ M)) ρ A w → (∀ w2, SR P B (w0.marked M) ρ A w2 → LeavesIn Fence.wide 0 P fn tmps R [] .returning w2) →
    LeavesInM Fence.wide 0 P fn tmps R (M1.map mark ++ []) .returning w
  | [], w, h, hE => hE w h
  | r :: M1, w, h, hE => ⟨(by intro e; cases e), .inl ⟨r, _, rfl, run_takeDeferred (h.marks.2 r (.head _)).2.1, leave_marks M1 _ (SR.taken h) hE⟩⟩
/-- a call -/
theorem CallS.of (G : Good P) {f : FuncId} {fn : Func} {c : Code} (hf : P.funcs[f]? = some fn) (hb : fn.body = some c) {args : Array Value} {A : AW} {K : Value → AW → Prop}
    (h : CodeS P B (w0.at none) c (args ++ Array.replicate (fn.ntmps - args.size) undef) A fun e t1 A1 => (e = .normal ∨ e = .ret) ∧ ∃ v, resA P fn t1 A1 = some v ∧ K v A1) : CallS P B w0 f args A K := by
  intro Γ M ρ w args' hs hargs
  have hini : AR ρ (args ++ Array.replicate (fn.ntmps - args.size) undef) (args' ++ Array.replicate (fn.ntmps - args'.size) undef) := by
    rw [← hargs.1]
    refine hargs.append (AR.of? rfl fun j v v' h1 h2 => ?_)
    rw [h1] at h2; injection h2 with h2; subst h2
    have : v = undef := by
      rw [Array.getElem?_replicate] at h1
      split at h1
      · injection h1 with h1; exact h1.symm
      · cases h1
    subst this
    exact undef_rel ρ
  refine callsIn_wide.1 (callsIn_of_wp_marks (F := Fence.wide) (n := 0) hf hb trivial (h _ [] Γ M ρ w _ (hs.at none) hini fun e ρ' t1 A1 t2 w' M1 g0 g1 g2 g3 => ?_))
  obtain ⟨he, v, hv, hK⟩ := g0
  have fin : LeavesInM Fence.wide 0 P fn t2 (EndS P B ((w0.but Γ).marked M) ρ K) (M1.map mark ++ []) .returning w' := by
    refine leave_marks (w0 := (w0.at none).but Γ) (M := M) M1 w' g3 fun w2 h2 => ?_
    obtain ⟨v', q1, q2⟩ := resA_sound h2 g2 hv
    exact ⟨v', q2, ρ', v, v', A1, rfl, hK, g1, h2.at w0.rd, q1⟩
  rcases he with rfl | rfl
  · exact fin
  · exact fin
theorem CallS.at {f : FuncId} {args : Array Value} {A : AW} {K : Value → AW → Prop} (h : CallS P B w0 f args A K) (r : Option Nat) : CallS P B (w0.at r) f args A K := by
  intro Γ M ρ w args' hs hargs
  refine (h Γ M ρ w args' (hs.at w0.rd) hargs).mono ?_
  rintro e w' ⟨ρ', v, v', A', g1, g2, g3, g4, g5⟩
  exact ⟨ρ', v, v', A', g1, g2, g3, g4.at r, g5⟩
/-- a loop's record, another one -/
theorem SR.loop {ρ : Ren} {A : AW} {w : World} (h : SR P B w0 ρ A w) {b : Nat} {l : Loop} {i : Info} (hA : A.heap.get b = some ⟨.loop l, false, false⟩) (hi : ρ b = some i) :
    ∃ l' : Loop, w.heap[i.g]? = some (.loop l') ∧ l.state = l'.state ∧ l.pending = l'.pending ∧ ∀ (st : LoopState) (p : Option Code), SR P B w0 ρ (A.put b (some ⟨.loop { l with state := st, pending := p }, false, false⟩)) (w.putObj i.g (.loop { l' with state := st, pending := p })) := by
  obtain ⟨hB, o', hg, hor⟩ := h.blk b _ i hA hi
  cases hor with
  | loop hro hs hp ht hps ha hb =>
    rename_i l'
    have hlt : i.g < w.heap.size := (Array.getElem?_eq_some_iff.1 hg).1
    exact ⟨l', hg, hs, hp, fun st p => h.change hA hi hro (.loop (l := { l with state := st, pending := p }) (l' := { l' with state := st, pending := p }) hro rfl rfl ht hps ha hb) rfl rfl rfl World.putObj_size (World.putObj_heap_same hlt) (fun k hk => World.putObj_heap_other hk)⟩
/-- how a round ends -/
def endR (b : Nat) (K : Value → AW → Prop) (e : AE) (A2 : AW) : Prop := ∃ lp : Loop, A2.heap.get b = some ⟨.loop lp, false, false⟩ ∧ match e with
  | .normal => K (.bool true) (A2.put b (some ⟨.loop { lp with state := .ready, pending := none }, false, false⟩))
  | .ret => K (.bool false) (A2.put b (some ⟨.loop { lp with state := .done, pending := some .ret }, false, false⟩))
  | .exit id => K (.bool false) (A2.put b (some ⟨.loop { lp with state := .done, pending := some (.exit id) }, false, false⟩))
/-- a round -/
theorem RoundW.of {b : Nat} {tmps : Array Value} {assign body : Code} {A : AW} {K : Value → AW → Prop}
    (h : ∀ l, CodeS P B (w0.at (some l)) assign tmps A fun e t1 A1 => e = .normal ∧ ∃ lp : Loop, A1.heap.get b = some ⟨.loop lp, false, false⟩ ∧ lp.state = .ready ∧
      CodeS P B (w0.at (some l)) body t1 (A1.put b (some ⟨.loop { lp with state := .busy, pending := lp.pending }, false, false⟩)) fun e _ A2 => endR b K e A2) : RoundW P B w0 b tmps assign body A K := by
  intro Γ M ρ w tmps' i f hs hi ht
  refine roundIn_of_wpIn (F := Fence.wide) (l := i.g) trivial ?_
  refine h i.g _ [] Γ M ρ w tmps' (hs.at (some i.g)) ht fun e ρ1 t1 A1 t2 w1 M1 g0 g1 g2 g3 => ?_
  obtain ⟨rfl, lp, k1, k2, k3⟩ := g0
  obtain ⟨l', q1, q2, q3, q4⟩ := SR.loop g3 k1 (g1 _ _ hi)
  have hbeg := run_beginRound (P := P) q1 (q2.symm.trans k2)
  refine ⟨_, hbeg, ?_⟩
  have hS := q4 .busy lp.pending
  rw [show ({ l' with state := LoopState.busy, pending := lp.pending } : Loop) = { l' with state := .busy } by rw [q3]] at hS
  refine k3 _ (M1.map mark ++ []) Γ (M1 ++ M) ρ1 _ t2 hS g2 fun e2 ρ2 t3 A3 t4 w4 M2 r0 r1 r2 r3 => ?_
  obtain ⟨lp2, n1, n2⟩ := r0
  obtain ⟨l2, u1, u2, u3, u4⟩ := SR.loop r3 n1 (r1 _ _ (g1 _ _ hi))
  have hun : ∀ {A' : AW} {w' : World}, SR P B ((((w0.at (some i.g)).but Γ)).marked (M2 ++ (M1 ++ M))) ρ2 A' w' → SR P B ((w0.but Γ).marked M) ρ2 A' w' := by
    intro A' w' hq
    rw [← List.append_assoc] at hq
    exact (SR.unmark (w0 := (w0.at (some i.g)).but Γ) hq).at w0.rd
  cases e2 with
  | normal => exact ⟨_, _, run_endRound none u1, ρ2, .bool true, .bool true, _, rfl, n2, Ren.le_trans g1 r1, hun (u4 .ready none), .bool true⟩
  | ret => exact ⟨_, _, run_endRound (some .ret) u1, ρ2, .bool false, .bool false, _, rfl, n2, Ren.le_trans g1 r1, hun (u4 .done (some .ret)), .bool false⟩
  | exit id => exact ⟨_, _, run_endRound (some (.exit id)) u1, ρ2, .bool false, .bool false, _, rfl, n2, Ren.le_trans g1 r1, hun (u4 .done (some (.exit id))), .bool false⟩
/-- how a range over a function goes on, the function having returned -/
def endL (b : Nat) (t : Array Value) (K : AE → Array Value → AW → Prop) (A1 : AW) : Prop := ∃ lp : Loop, A1.heap.get b = some ⟨.loop lp, false, false⟩ ∧ lp.state ≠ .busy ∧ match lp.pending with
  | none => K .normal t (A1.put b (some ⟨.loop { lp with state := .exhausted, pending := lp.pending }, false, false⟩))
  | some .ret => K .ret t (A1.put b (some ⟨.loop { lp with state := .exhausted, pending := lp.pending }, false, false⟩))
  | some (.exit id) => K (.exit id) t (A1.put b (some ⟨.loop { lp with state := .exhausted, pending := lp.pending }, false, false⟩))
  | _ => False
theorem CodeS.range (G : Good P) {g : Operand} {ps : Array Tmp} {assign body : Code} {t : Array Value} {A : AW} {K : AE → Array Value → AW → Prop} (hrd : w0.rd = none) (hx : okX g = true) (hgl : glX w0.gl g = true) {gf : FuncId} {cs : Array Value}
    (hg : ev t g = .func (.func gf) #[] cs) {fn : Func} (hfn : P.funcs[gf]? = some fn) (hbd : fn.body.isSome = true) (hroom : A.room = true)
    (h : CallS P B w0 gf (#[.func (.yield A.next) #[] #[]] ++ cs) (A.add ⟨.loop { state := .ready, pending := none, fn := 0, tmps := t, params := ps, assign, body, defers := 0 }, false, false⟩) fun _ A1 => endL A.next t K A1) :
    CodeS P B w0 (.rangeFunc g ps assign body) t A K := by
  intro Q ds Γ M ρ w t' hs ht hQ
  refine wpIn_rangeFunc fun fn0 _ => ?_
  have hr0 : w0.F.round = none := hrd
  rw [hr0]
  have hev := ev_rel ht hs.glo hx hgl
  rw [hg] at hev
  generalize hz : ev t' g = z at hev
  cases hev with
  | func _ hp p1 p2 p3 p4 =>
    rename_i f' lb
    have hf0 : f' = #[] := Array.eq_empty_of_size_eq_zero p1.symm
    subst hf0
    have heg : (⟨t', ds⟩ : Act).eval g = .func (.func gf) #[] lb := by rw [eval_ev]; exact hz
    have hn := G.names gf fn hfn
    have hnb : fn.body.isNone = false := by
      cases hb2 : fn.body with
      | none => rw [hb2] at hbd; cases hbd
      | some b => rfl
    have eg : ∀ args w, (callFunc gf args).run P w = .ok (.enter gf args) w := by
      intro args w
      simp only [callFunc, Go.program, Bind.bind, Sem.bind, Sem.run, hfn, hn, hnb]
      rfl
    -- the record
    have hs1 := SR.marked hs
    have hrec : ∃ rec : Loop, rec = { state := .ready, pending := none, fn := fn0, tmps := t', params := ps, assign, body, defers := w.heap.size } := ⟨_, rfl⟩
    obtain ⟨rec, hrec⟩ := hrec
    obtain ⟨W1, hW1⟩ : ∃ W1, W1 = (w.alloc (.deferred (some []))).alloc (.loop rec) := ⟨_, rfl⟩
    have hsz : (w.alloc (.deferred (some []))).heap.size = w.heap.size + 1 := by simp
    have hs2 : SR P B ((w0.but Γ).marked (w.heap.size :: M)) (ρ.more A.next ⟨w.heap.size + 1, false, false, 0, 0, 0⟩) (A.add ⟨.loop { state := .ready, pending := none, fn := 0, tmps := t, params := ps, assign, body, defers := 0 }, false, false⟩) W1 := by
      rw [hW1]
      refine hs1.new (o' := .loop rec) (i := ⟨w.heap.size + 1, false, false, 0, 0, 0⟩) hroom rfl rfl rfl (by simp) (by have := Nat.le_trans hs1.low hs1.below.size; rw [hsz] at this; exact this) ?_ ?_ (fun b y j hy hj => by have := hs1.old hy hj; rw [hsz] at this; exact Nat.ne_of_lt this) (fun r hr => by have := hs1.mkOld hr; rw [hsz] at this; exact Nat.ne_of_lt this) ?_
      · have := (Go.MapKept.heap_alloc (w.alloc (.deferred (some []))) (.loop rec)).1
        rw [hsz] at this
        exact this
      · intro k _ hk
        exact (Go.MapKept.heap_alloc (w.alloc (.deferred (some []))) (.loop rec)).2 k hk
      · rw [hrec]
        exact .loop rfl rfl rfl (ht.mono (Ren.le_more hs.fresh)) rfl rfl rfl
    have hle := Ren.le_more (i := ⟨w.heap.size + 1, false, false, 0, 0, 0⟩) hs.fresh
    have hself := Ren.more_self ρ A.next ⟨w.heap.size + 1, false, false, 0, 0, 0⟩
    have hargs : AR (ρ.more A.next ⟨w.heap.size + 1, false, false, 0, 0, 0⟩) (#[.func (.yield A.next) #[] #[]] ++ cs) (#[.func (.yield (w.heap.size + 1)) #[] #[]] ++ lb) :=
      AR.append (AR.one (.yield hself)) (AR.mono hle ⟨p3, p4⟩)
    have hc := h Γ (w.heap.size :: M) (ρ.more A.next ⟨w.heap.size + 1, false, false, 0, 0, 0⟩) W1 _ hs2 hargs
    have hc2 : CallsIn w0.F (0 - 1) P gf (#[.func (.yield (w.heap.size + 1)) #[] #[]] ++ lb) W1 (EndS P B ((w0.but Γ).marked (w.heap.size :: M)) (ρ.more A.next ⟨w.heap.size + 1, false, false, 0, 0, 0⟩) fun _ A1 => endL A.next t K A1) := callsIn_at (m := 0 - 1) w0 hc
    clear hc
    have hdep : w0.F.depth.isSome = true → 1 ≤ 0 := fun e => by cases e
    have hall : ∀ f', Target.leads P W1 (Target.fn (.func gf) lb) #[.func (.yield (w.heap.size + 1)) #[] #[]] = some f' → w0.F.fn f' := fun _ _ => trivial
    refine ⟨w.heap.size + 1, [{ target := .collected w.heap.size, args := #[] }], W1, { target := .fn (.func gf) lb, args := #[.func (.yield (w.heap.size + 1)) #[] #[]] }, W1, gf,
      #[.func (.yield (w.heap.size + 1)) #[] #[]] ++ lb, W1, ?_, ?_, hall, ?_, hdep, ?_⟩
    · rw [hW1, hrec]; exact run_enterLoop_outer _ _ _ _ _
    · simp only [resolve, heg]
      simp [go_sem]
    · simp [invoke, go_sem, eg]
    · refine CallsIn.mono hc2 ?_
      rintro e w3 ⟨ρ', v, v', A1, rfl, ⟨lp, k1, k2, k3⟩, g1, g3, _⟩
      obtain ⟨l', q1, q2, q3, q4⟩ := SR.loop g3 k1 (g1 _ _ hself)
      refine ⟨_, _, run_endLoop q1 (fun e => k2 (q2.trans e)), ?_⟩
      have hS := q4 .exhausted lp.pending
      rw [show ({ l' with state := LoopState.exhausted, pending := lp.pending } : Loop) = { l' with state := .exhausted } by rw [q3]] at hS
      have hQ' : ∀ (e : AE) (A2 : AW) (w4 : World), K e t A2 → SR P B ((w0.but Γ).marked ([w.heap.size] ++ M)) ρ' A2 w4 → Q e.up { tmps := t', defers := [w.heap.size].map mark ++ ds } w4 := fun e A2 w4 hk hS => hQ e ρ' t A2 t' w4 [w.heap.size] hk (Ren.le_trans hle g1) (ht.mono (Ren.le_trans hle g1)) hS
      rw [q3] at k3 hS
      cases hpd : l'.pending with
      | none =>
        rw [hpd] at k3 hS
        exact hQ' .normal _ _ k3 hS
      | some c =>
        rw [hpd] at k3 hS
        cases c with
        | ret => exact wpIn_ret (hQ' .ret _ _ k3 hS)
        | exit id => exact wpIn_exit (hQ' (.exit id) _ _ k3 hS)
        | _ => exact k3.elim
/-- THE WHOLE: a call that the evaluator brings to its end, from nothing -/
theorem whole {f : FuncId} {args : Array Value} {v : Value} {w : World} (h : CallS P w.heap.size ⟨w, fun _ _ => False, fun _ => false, none, []⟩ f args ⟨.leaf, 0⟩ fun u _ => u = v) (hargs : args.all leafFree = true) (hv : free v = true) :
    Calls P f args w fun e w' => e = .returned v ∧ Below w.heap.size w w' := by
  have hs : SR P w.heap.size ((Base.but ⟨w, fun _ _ => False, fun _ => false, none, []⟩ fun _ _ => False).marked []) (fun _ => none) ⟨.leaf, 0⟩ w := ⟨Below.refl _ _, Nat.le_refl _, fun b i hb => (by cases hb), by decide, fun b x hb => (by cases hb), fun b x hb => hb.elim, fun b x i hb => (by cases hb), fun b c x y i j hb => (by cases hb), (fun g hg => by cases hg), List.nodup_nil, fun r hr => by cases hr⟩
  refine (h (fun _ _ => False) [] _ w args hs (all_rel _ hargs)).mono ?_
  rintro e w' ⟨ρ', u, v', A', rfl, rfl, _, g3, g4⟩
  rw [free_eq hv g4]
  exact ⟨rfl, g3.below⟩
end
end Go.Proofs.YtfeppmhcpfccfaaGreatDoor.Sim
/- A verified evaluator, part S: calls that are deferred. Of no program. -/
namespace Go.Proofs.YtfeppmhcpfccfaaGreatDoor.Sim
open Go Go.RowKit

section
variable {P : Program} {F : Fence} {n : Nat}
/-- a frame on its way out whose deferred calls are marks alone -/
def DrainM (P : Program) (fn : Func) (tmps : Array Value) (R : Ending → World → Prop) : List Deferred → World → Prop
  | [], w => ∃ v, (results fn tmps).run P w = .ok v w ∧ R (.returned v) w
  | d :: ds, w => ∃ r w', d.target = .collected r ∧ (Instr.takeDeferred r).run P w = .ok [] w' ∧ DrainM P fn tmps R ds w'
theorem drain_steps {fn : Func} {tmps : Array Value} {R : Ending → World → Prop} : ∀ (ds : List Deferred) (w : World) (fr : Frame) (cs : List Frame), fr.mode = .returning → fr.defers = ds → F.fn fr.fn → F.room (cs.length + 1 + n) → DrainM P fn tmps R ds w →
    ∃ v w', R (.returned v) w' ∧ StepsIn (Machine.fenced P F) P (lone fr cs w) (lone { fr with defers := [] } cs w') ∧ (results fn tmps).run P w' = .ok v w'
  | [], w, fr, cs, _, hd, _, _, ⟨v, h1, h2⟩ => ⟨v, w, h2, by
      have : { fr with defers := [] } = fr := by cases fr; simp_all
      rw [this]
      exact .refl _, h1⟩
  | d :: ds, w, fr, cs, hm, hd, hF, hroom, ⟨r, w1, ht, hk, hrest⟩ => by
    have hrun : fr.mode ≠ .run := by rw [hm]; intro e; cases e
    have h1 := step_collected (cs := cs) hrun hd ht hk
    have i1 : (lone fr cs w).fenced P F := fenced_out hF hroom hrun hd (fun g hg => by rw [ht] at hg; simp [Target.leads] at hg)
    obtain ⟨v, w', g1, g2, g3⟩ := drain_steps ds w1 { fr with defers := [] ++ ds } cs hm rfl hF hroom hrest
    exact ⟨v, w', g1, .head i1 h1 g2, g3⟩
def postD (P : Program) (fn : Func) (R : Ending → World → Prop) : Exit → Act → World → Prop
  | .normal, a, w | .ret, a, w => DrainM P fn a.tmps R a.defers w
  | _, _, _ => False
/-- a function whose body leaves marks alone, entered as a deferred call -/
theorem callsDIn_marks {f : FuncId} {fn : Func} {c : Code} {args : Array Value} {w : World} {R : Ending → World → Prop} (hf : P.funcs[f]? = some fn) (hb : fn.body = some c) (hF : F.fn f)
    (h : c.wpIn F n P (postD P fn R) { tmps := args ++ Array.replicate (fn.ntmps - args.size) undef, defers := [] } w) (hro : F.round = none := by rfl) :
    CallsDIn F n P f args .returning w fun e u' w' => u' = .returning ∧ R e w' := by
  refine ⟨hF, fun c₀ cs hu hr => ?_⟩
  let b : Frame := { (default : Frame) with fn := f, kind := .deferred, roundOf := none }
  have henter : Frame.enter P f args .deferred =
      b.atR { tmps := args ++ Array.replicate (fn.ntmps - args.size) undef, defers := [] } [.code c] := by
    simp [Frame.enter, Frame.atR, hf, hb, b]
  have hc : ({ c₀ with mode := .returning } : Frame) = c₀ := by rw [← hu]
  obtain ⟨e, a', w', hq, harr⟩ := h b [] (c₀ :: cs) hro.symm hF hr
  rw [← henter] at harr
  cases e with
  | normal =>
    obtain ⟨v, w2, g1, g2, g3⟩ := drain_steps (F := F) (n := n) a'.defers w' { b.atR a' [] with mode := .returning } (c₀ :: cs) rfl rfl hF hr hq
    exact ⟨.returned v, .returning, w2, _, ⟨rfl, g1⟩, (by rw [hc]; exact (StepsIn.trans harr (.one (fenced_calm (fr := b.atR a' []) hF hr rfl) (stepR_end rfl))).trans g2), rfl, rfl, rfl, rfl, fn, hf, g3⟩
  | ret =>
    obtain ⟨todo, hs⟩ := harr.1 rfl
    obtain ⟨v, w2, g1, g2, g3⟩ := drain_steps (F := F) (n := n) a'.defers w' { b.atR a' todo with mode := .returning } (c₀ :: cs) rfl rfl hF hr hq
    exact ⟨.returned v, .returning, w2, _, ⟨rfl, g1⟩, (by rw [hc]; exact hs.trans g2), rfl, rfl, rfl, rfl, fn, hf, g3⟩
  | panic chain => exact hq.elim
  | exit id => exact hq.elim
  | goto l => exact hq.elim
  | outgrown => exact hq.elim
theorem upon_mono {o : Oper} {a : Act} {next next' : Act → World → Prop} {Q Q' : Exit → Act → World → Prop} (hn : ∀ a w, next a w → next' a w) (hp : ∀ c a w, Q (.panic c) a w → Q' (.panic c) a w) (ho : ∀ a w, Q .outgrown a w → Q' .outgrown a w)
    {r : Result Next} (h : o.uponIn F n P a next Q r) : o.uponIn F n P a next' Q' r := by
  have hl : LetsOut Q → LetsOut Q' := fun ⟨a, w, q⟩ => ⟨a, w, ho a w q⟩
  unfold Oper.uponIn at h ⊢
  split at h
  · exact hn _ _ h
  · exact hn _ _ h
  · exact hn _ _ h
  · refine ⟨h.1, h.2.mono fun e w' q => ?_⟩
    cases e with
    | returned v => exact hn _ _ q
    | panicked c => exact hp _ _ _ q
    | outgrown => exact hl q
  · exact ⟨h.1, h.2.mono fun v w' q => hn _ _ q⟩
  · refine ⟨h.1, h.2.mono fun e w' q => ?_⟩
    cases e with
    | returned v => exact hn _ _ q
    | panicked c => exact hp _ _ _ q
    | outgrown => exact hl q
  · exact hp _ _ _ h
  · exact h.elim
/-- one operation behind others -/
theorem wpOps_app {ops : Array Oper} {Q : Exit → Act → World → Prop} {j : Nat} : ∀ (l : List Nat) (a : Act) (w : World),
    wpC F n P ops (fun e a w => match e with | .normal => wpC F n P ops Q [j] a w | e => Q e a w) l a w → wpC F n P ops Q (l ++ [j]) a w
  | [], a, w, h => h
  | i :: l, a, w, h => by
    rw [List.cons_append]
    simp only [wpC] at h ⊢
    cases ho : ops[i]? with
    | none => rw [ho] at h; exact wpOps_app l a w h
    | some o =>
      rw [ho] at h
      dsimp only at h ⊢
      split at h
      · rename_i hw
        rw [if_pos hw]
        rcases h with h | ⟨v, w', h1, h2⟩
        · exact .inl ⟨h.1, upon_mono (fun a w q => wpOps_app l a w q) (fun _ _ _ q => q) (fun _ _ q => q) h.2⟩
        · exact .inr ⟨v, w', h1, wpOps_app l _ _ h2⟩
      · rename_i hw
        rw [if_neg hw]
        exact ⟨h.1, wpOps_app l _ _ h.2⟩
end

section
variable {P : Program} {B : Nat} {w0 : Base}
/-- a deferred call's end -/
def CallD (P : Program) (B : Nat) (w0 : Base) (f : FuncId) (args : Array Value) (A : AW) (K : Value → AW → Prop) : Prop :=
  ∀ (Γ : Nat → ABk → Prop) (M : List Nat) (ρ : Ren) (w : World) (args' : Array Value), SR P B ((w0.but Γ).marked M) ρ A w → AR ρ args args' →
    CallsDIn Fence.wide 0 P f args' .returning w fun e u' w' => u' = .returning ∧ EndS P B ((w0.but Γ).marked M) ρ K e w'
theorem drain_marks {ρ : Ren} {A : AW} {fn : Func} {tmps : Array Value} {R : Ending → World → Prop} {M : List Nat} : ∀ (M1 : List Nat) (w : World), SR P B (w0.marked (M1 ++ M)) ρ A w → (∀ w2, SR P B (w0.marked M) ρ A w2 → ∃ v, (results fn tmps).run P w2 = .ok v w2 ∧ R (.returned v) w2) →
    DrainM P fn tmps R (M1.map mark ++ []) w
  | [], w, h, hE => hE w h
  | r :: M1, w, h, hE => ⟨r, _, rfl, run_takeDeferred (h.marks.2 r (.head _)).2.1, drain_marks M1 _ (SR.taken h) hE⟩
theorem CallD.of (G : Good P) {f : FuncId} {fn : Func} {c : Code} (hf : P.funcs[f]? = some fn) (hb : fn.body = some c) {args : Array Value} {A : AW} {K : Value → AW → Prop}
    (h : CodeS P B (w0.at none) c (args ++ Array.replicate (fn.ntmps - args.size) undef) A fun e t1 A1 => (e = .normal ∨ e = .ret) ∧ ∃ v, resA P fn t1 A1 = some v ∧ K v A1) : CallD P B w0 f args A K := by
  intro Γ M ρ w args' hs hargs
  have hini : AR ρ (args ++ Array.replicate (fn.ntmps - args.size) undef) (args' ++ Array.replicate (fn.ntmps - args'.size) undef) := by
    rw [← hargs.1]
    refine hargs.append (AR.of? rfl fun j v v' h1 h2 => ?_)
    rw [h1] at h2; injection h2 with h2; subst h2
    have : v = undef := by
      rw [Array.getElem?_replicate] at h1
      split at h1
      · injection h1 with h1; exact h1.symm
      · cases h1
    subst this
    exact undef_rel ρ
  refine callsDIn_marks (F := Fence.wide) (n := 0) hf hb trivial (h _ [] Γ M ρ w _ (hs.at none) hini fun e ρ' t1 A1 t2 w' M1 g0 g1 g2 g3 => ?_)
  obtain ⟨he, v, hv, hK⟩ := g0
  have fin : DrainM P fn t2 (EndS P B ((w0.but Γ).marked M) ρ K) (M1.map mark ++ []) w' := by
    refine drain_marks (w0 := (w0.at none).but Γ) (M := M) M1 w' g3 fun w2 h2 => ?_
    obtain ⟨v', q1, q2⟩ := resA_sound h2 g2 hv
    exact ⟨v', q2, ρ', v, v', A1, rfl, hK, g1, h2.at w0.rd, q1⟩
  rcases he with rfl | rfl
  · exact fin
  · exact fin

/-- a call that waits: its function, and all that it is given -/
structure DC where
  g : FuncId
  args : Array Value
def DefR (P : Program) (ρ : Ren) (d : DC) (x : Deferred) : Prop := ∃ fv cap as, x.target = .fn fv cap ∧ (∀ w, (invoke x.target x.args).run P w = .ok (.enter d.g as) w) ∧ AR ρ d.args as
inductive DsR (P : Program) (ρ : Ren) : List DC → List Nat → List Deferred → Prop
  | nil : DsR P ρ [] [] []
  | mk (r : Nat) {D : List DC} {M : List Nat} {l : List Deferred} (h : DsR P ρ D M l) : DsR P ρ D (r :: M) (mark r :: l)
  | call {d : DC} {x : Deferred} {D : List DC} {M : List Nat} {l : List Deferred} (hx : DefR P ρ d x) (h : DsR P ρ D M l) : DsR P ρ (d :: D) M (x :: l)
theorem DefR.mono {ρ ρ' : Ren} (hle : ρ.le ρ') {d : DC} {x : Deferred} (h : DefR P ρ d x) : DefR P ρ' d x := by
  obtain ⟨fv, cap, as, h1, h2, h3⟩ := h
  exact ⟨fv, cap, as, h1, h2, h3.mono hle⟩
theorem DsR.mono {ρ ρ' : Ren} (hle : ρ.le ρ') {D : List DC} {M : List Nat} {l : List Deferred} (h : DsR P ρ D M l) : DsR P ρ' D M l := by
  induction h with
  | nil => exact .nil
  | mk r _ ih => exact .mk r ih
  | call hx _ ih => exact .call (hx.mono hle) ih
theorem DsR.marks (ρ : Ren) : ∀ (M : List Nat), DsR P ρ [] M (M.map mark)
  | [] => .nil
  | r :: M => .mk r (DsR.marks ρ M)
theorem DsR.app {ρ : Ren} {D D' : List DC} {M M' : List Nat} {l l' : List Deferred} (h : DsR P ρ D M l) (h' : DsR P ρ D' M' l') : DsR P ρ (D ++ D') (M ++ M') (l ++ l') := by
  induction h with
  | nil => exact h'
  | mk r _ ih => exact .mk r ih
  | call hx _ ih => exact .call hx ih
/-- code that may defer calls -/
def CodeD (P : Program) (B : Nat) (w0 : Base) (c : Code) (t : Array Value) (A : AW) (K : AE → Array Value → AW → List DC → Prop) : Prop :=
  ∀ (Q : Exit → Act → World → Prop) (ds : List Deferred) (Γ : Nat → ABk → Prop) (M : List Nat) (ρ : Ren) (w : World) (t' : Array Value), SR P B ((w0.but Γ).marked M) ρ A w → AR ρ t t' →
    (∀ e ρ' t1 A1 t2 w' M' D l, K e t1 A1 D → ρ.le ρ' → AR ρ' t1 t2 → SR P B ((w0.but Γ).marked (M' ++ M)) ρ' A1 w' → DsR P ρ' D M' l → Q e.up ⟨t2, l ++ ds⟩ w') → c.wpIn w0.F 0 P Q ⟨t', ds⟩ w
theorem CodeD.of {c : Code} {t : Array Value} {A : AW} {K : AE → Array Value → AW → List DC → Prop} (h : CodeS P B w0 c t A fun e t1 A1 => K e t1 A1 []) : CodeD P B w0 c t A K :=
  fun Q ds Γ M ρ w t' hs ht hQ => h Q ds Γ M ρ w t' hs ht fun e ρ' t1 A1 t2 w' M' g0 g1 g2 g3 => hQ e ρ' t1 A1 t2 w' M' [] _ g0 g1 g2 g3 (DsR.marks ρ' M')
theorem CodeD.mono {c : Code} {t : Array Value} {A : AW} {K K' : AE → Array Value → AW → List DC → Prop} (h : CodeD P B w0 c t A K) (hK : ∀ e t A D, K e t A D → K' e t A D) : CodeD P B w0 c t A K' :=
  fun Q ds Γ M ρ w t' hs ht hQ => h Q ds Γ M ρ w t' hs ht fun e ρ' t1 A1 t2 w' M' D l g0 g1 g2 g3 g4 => hQ e ρ' t1 A1 t2 w' M' D l (hK _ _ _ _ g0) g1 g2 g3 g4
theorem CodeD.seq {a b : Code} {t : Array Value} {A : AW} {K : AE → Array Value → AW → List DC → Prop} (h : CodeD P B w0 a t A fun e t1 A1 D => match e with
    | .normal => CodeD P B w0 b t1 A1 fun e2 t2 A2 D2 => K e2 t2 A2 (D2 ++ D)
    | e => K e t1 A1 D) : CodeD P B w0 (.seq a b) t A K :=
  fun Q ds Γ M ρ w t' hs ht hQ => wpIn_seq (h (Exit.then (b.wpIn w0.F 0 P Q) Q) ds Γ M ρ w t' hs ht fun e ρ' t1 A1 t2 w' M1 D l g0 g1 g2 g3 g4 => by
    cases e with
    | normal =>
      refine g0 Q (l ++ ds) Γ (M1 ++ M) ρ' w' t2 g3 g2 fun e2 ρ2 t3 A3 t4 w4 M2 D2 l2 q0 q1 q2 q3 q4 => ?_
      have := hQ e2 ρ2 t3 A3 t4 w4 (M2 ++ M1) (D2 ++ D) (l2 ++ l) q0 (Ren.le_trans g1 q1) q2 (by rw [List.append_assoc]; exact q3) (q4.app (g4.mono q1))
      rw [List.append_assoc] at this
      exact this
    | exit id => exact hQ (.exit id) ρ' t1 A1 t2 w' M1 D l g0 g1 g2 g3 g4
    | ret => exact hQ .ret ρ' t1 A1 t2 w' M1 D l g0 g1 g2 g3 g4)
/-- the calls that wait, on the way out -/
def LeaveD (P : Program) (B : Nat) (w0 : Base) : List DC → AW → (AW → Prop) → Prop
  | [], A, K => K A
  | d :: D, A, K => CallD P B w0 d.g d.args A fun _ A' => LeaveD P B w0 D A' K
theorem leave_all {fn : Func} {R : Ending → World → Prop} {Γ : Nat → ABk → Prop} {M : List Nat} {Kf : AW → Prop} {t1 t2 : Array Value} {D : List DC} {M1 : List Nat} {l : List Deferred} {ρ : Ren} (hd : DsR P ρ D M1 l) :
    ∀ {ρ' : Ren} {A : AW} {w : World}, ρ.le ρ' → AR ρ' t1 t2 → SR P B ((w0.but Γ).marked (M1 ++ M)) ρ' A w → LeaveD P B w0 D A Kf →
      (∀ ρ2 A2 w2, Kf A2 → ρ'.le ρ2 → AR ρ2 t1 t2 → SR P B ((w0.but Γ).marked M) ρ2 A2 w2 → LeavesIn Fence.wide 0 P fn t2 R [] .returning w2) → LeavesInM Fence.wide 0 P fn t2 R (l ++ []) .returning w := by
  induction hd with
  | nil => exact fun {ρ'} {A} {w} _ ht h hl hE => hE ρ' A w hl (Ren.le_refl _) ht h
  | mk r _ ih => exact fun hle ht h hl hE => ⟨(by intro e; cases e), .inl ⟨r, _, rfl, run_takeDeferred (h.marks.2 r (.head _)).2.1, ih hle ht (SR.taken h) hl hE⟩⟩
  | call hx _ ih =>
    intro ρ' A w hle ht h hl hE
    obtain ⟨fv, cap, as, h1, h2, h3⟩ := hx.mono hle
    refine ⟨(by intro e; cases e), .inr ⟨fun q => (by cases q), fv, cap, _, as, h1, h2 w, fun _ _ => trivial, (hl Γ _ ρ' w as h h3).mono ?_⟩⟩
    rintro e u' w' ⟨rfl, ρ2, v, v', A2, rfl, q1, q2, q3, _⟩
    exact ih (Ren.le_trans hle q2) (ht.mono q2) q3 q1 fun ρ3 A3 w3 p1 p2 p3 p4 => hE ρ3 A3 w3 p1 (Ren.le_trans q2 p2) p3 p4
/-- a call of a function that defers -/
theorem CallS.ofD (G : Good P) {f : FuncId} {fn : Func} {c : Code} (hf : P.funcs[f]? = some fn) (hb : fn.body = some c) {args : Array Value} {A : AW} {K : Value → AW → Prop}
    (h : CodeD P B (w0.at none) c (args ++ Array.replicate (fn.ntmps - args.size) undef) A fun e t1 A1 D => (e = .normal ∨ e = .ret) ∧ LeaveD P B (w0.at none) D A1 fun A2 => ∃ v, resA P fn t1 A2 = some v ∧ K v A2) : CallS P B w0 f args A K := by
  intro Γ M ρ w args' hs hargs
  have hini : AR ρ (args ++ Array.replicate (fn.ntmps - args.size) undef) (args' ++ Array.replicate (fn.ntmps - args'.size) undef) := by
    rw [← hargs.1]
    refine hargs.append (AR.of? rfl fun j v v' h1 h2 => ?_)
    rw [h1] at h2; injection h2 with h2; subst h2
    have : v = undef := by
      rw [Array.getElem?_replicate] at h1
      split at h1
      · injection h1 with h1; exact h1.symm
      · cases h1
    subst this
    exact undef_rel ρ
  refine callsIn_wide.1 (callsIn_of_wp_marks (F := Fence.wide) (n := 0) hf hb trivial (h _ [] Γ M ρ w _ (hs.at none) hini fun e ρ' t1 A1 t2 w' M1 D l g0 g1 g2 g3 g4 => ?_))
  obtain ⟨he, hl⟩ := g0
  have fin : LeavesInM Fence.wide 0 P fn t2 (EndS P B ((w0.but Γ).marked M) ρ K) (l ++ []) .returning w' := by
    refine leave_all (w0 := w0.at none) g4 (Ren.le_refl _) g2 g3 hl fun ρ2 A2 w2 q0 q1 q2 q3 => ?_
    obtain ⟨v, hv, hK⟩ := q0
    obtain ⟨v', p1, p2⟩ := resA_sound q3 q2 hv
    exact ⟨v', p2, ρ2, v, v', A2, rfl, hK, Ren.le_trans g1 q1, q3.at w0.rd, p1⟩
  rcases he with rfl | rfl
  · exact fin
  · exact fin
/-- a region whose last operation defers a call -/
theorem CodeD.defer (G : Good P) (hrd : w0.rd = none) {id : Nat} {ops : Array Oper} {m : Nat} {o : Oper} {f : Operand} {args : Array Operand} {ts : Array TypeId} (hm : ops.size = m + 1) (ho : ops[m]? = some o) (hop : o.op = .defer ⟨.value f, args, ts⟩) (hgd : o.guard = none) (hdst : o.dst = none)
    (hok : okOp o = true) (hgl : glOp w0.gl o = true) {t : Array Value} {A : AW} {K : AE → Array Value → AW → List DC → Prop}
    (h : ∀ Γ M, opsW P B ((w0.but Γ).marked M) ops (fun t1 A1 => ∃ g fs cs fn, ev t1 f = .func (.func g) fs cs ∧ P.funcs[g]? = some fn ∧ fn.body.isSome = true ∧ K .normal t1 A1 [⟨g, fs ++ evs (ev t1) args ++ cs⟩]) (List.range m) t A) : CodeD P B w0 (.region id ops false) t A K := by
  intro Q ds Γ M ρ w t' hs ht hQ
  refine wpC_region ?_
  rw [hm, List.range_succ]
  refine wpOps_app _ _ _ (opsW_sound (w0 := (w0.but Γ).marked M) (B := B) G ds _ ρ A w t t' hs ht (h Γ M) fun ρ' tf Af t2 w' g0 g1 g2 g3 => ?_)
  obtain ⟨g, fs, cs, fn, k1, k2, k3, k4⟩ := g0
  show wpC w0.F 0 P ops Q [m] ⟨t2, ds⟩ w'
  simp only [wpC]
  rw [ho]
  dsimp only
  have hwant : Region.wanted o (yielded ops t2) = true := by
    unfold Region.wanted
    rw [hgd]
  rw [if_pos hwant]
  refine .inl ⟨fun _ _ => trivial, ?_⟩
  have hops := evs_ok g3.glo g2 hgl hok
  obtain ⟨dst, op, ty, pos, after, guard⟩ := o
  dsimp only at hop hgd hdst
  subst hop hgd hdst
  have hf : VR ρ' (ev tf f) (ev t2 f) := hops f (by simp [Op.operands, Call.operands])
  have hargs : AR ρ' (evs (ev tf) args) (evs (ev t2) args) := evs_rel (fun x hx => hops x (by simp only [Op.operands, Call.operands]; exact Array.mem_append.2 (.inr hx)))
  rw [k1] at hf
  generalize hz : ev t2 f = z at hf
  cases hf with
  | func _ hpl p1 p2 p3 p4 =>
    rename_i f' c'
    have hn := G.names g fn k2
    have hnb : fn.body.isNone = false := by
      cases hb2 : fn.body with
      | none => rw [hb2] at k3; cases k3
      | some b => rfl
    have hsem : (Oper.semAt w0.F.round (⟨t2, ds⟩ : Act).eval ⟨none, .defer ⟨.value f, args, ts⟩, ty, pos, after, none⟩).run P w' = .ok (.defer ⟨.fn (.func g) c', f' ++ evs (ev t2) args⟩) w' := by
      show (Oper.semAt w0.rd _ _).run P w' = _
      rw [hrd, Oper.semAt_none, eval_ev]
      simp only [execOp, resolve, hz, Deferred.ofValue, evs_eq]
      rfl
    rw [hsem, Oper.uponIn_defer]
    refine hQ .normal ρ' tf Af t2 w' [] [⟨g, fs ++ evs (ev tf) args ++ cs⟩] [⟨.fn (.func g) c', f' ++ evs (ev t2) args⟩] k4 g1 g2 g3 (.call ⟨.func g, c', f' ++ evs (ev t2) args ++ c', rfl, fun w => ?_, AR.append (AR.append ⟨p1, p2⟩ hargs) ⟨p3, p4⟩⟩ .nil)
    show (callFunc g (f' ++ evs (ev t2) args ++ c')).run P w = _
    simp only [callFunc, Go.program, Bind.bind, Sem.bind, Sem.run, k2, hn, hnb]
    rfl
end
end Go.Proofs.YtfeppmhcpfccfaaGreatDoor.Sim
