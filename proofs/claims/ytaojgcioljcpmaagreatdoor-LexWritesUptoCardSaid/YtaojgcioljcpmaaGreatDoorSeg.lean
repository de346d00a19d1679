/- A region that draws its order: quiet operations (that read, or call what only draws), in whatever order, between a few that may do anything, each of which comes up alone. Of no program. -/
import Derived.StillTail
import Derived.Deep.QuietTactic
import Derived.BigQuiet
namespace Go.Proofs.YtaojgcioljcpmaaGreatDoor
open Go

section
variable {P : Program} {ops : Array Oper} {md : Region.Mode} {C : World → Prop}

/-- whatever stands behind n waits for something from n on -/
def gateB (md : Region.Mode) (ops : Array Oper) (n : Nat) : Bool :=
  (List.range ops.size).all fun t => decide (t ≤ n) || (List.range t).any fun j => decide (n ≤ j) && Region.waitsFor md ops t j

theorem waits_not_ready {t j : Nat} {listed : Array Bool} (hw : Region.waitsFor md ops t j = true) (hj : listed.getD j false = false) : t ∉ Region.ready md ops listed := by
  intro hr
  obtain ⟨o, ho, e, he, hb, hon⟩ := Region.waitsFor_spec hw
  obtain ⟨_, o', ho', hall⟩ := mem_ready.1 hr
  obtain rfl : o' = o := Option.some.inj (ho'.symm.trans ho)
  have := hall e he hb
  rw [hon, hj] at this
  cases this

/-- while something ahead of n is not done, neither n nor what stands behind it comes up -/
theorem behind_waits {n : Nat} {listed : Array Bool} (hs : Region.sinkB md ops n = true) (hg : gateB md ops n = true) (hn : n < ops.size) (inv : HeadInv md ops n listed)
    {i : Nat} (hi : i < n) (hun : listed.getD i true = false) : ∀ t, n ≤ t → t ∉ Region.ready md ops listed := by
  have hnn : ∀ (d i : Nat), n - i = d → i < n → listed.getD i true = false → n ∉ Region.ready md ops listed := by
    intro d
    induction d using Nat.strongRecOn with
    | _ d ih =>
      intro i hd hi hun
      obtain ⟨j, hj, hj2⟩ := List.any_eq_true.1 (List.all_eq_true.1 hs i (List.mem_range.2 hi))
      simp only [Bool.and_eq_true, decide_eq_true_eq] at hj2
      have hjle : j ≤ n := by have := List.mem_range.1 hj; omega
      rcases Nat.lt_or_ge j n with hjn | hjn
      · refine ih (n - j) (by omega) j rfl hjn ?_
        cases hl : listed.getD j false with
        | false => exact getD_in (by rw [inv.size]; omega) hl
        | true =>
          obtain ⟨oj, hoj, e, he, hb, hon⟩ := Region.waitsFor_spec hj2.2
          have := inv.closed j oj hoj hl e he hb
          rw [hon, getD_both hun] at this
          cases this
      · obtain rfl : j = n := by omega
        exact waits_not_ready hj2.2 (getD_both hun)
  intro t ht
  rcases Nat.eq_or_lt_of_le ht with rfl | hlt
  · exact hnn _ i rfl hi hun
  · intro hr
    obtain ⟨_, ot, hot, _⟩ := mem_ready.1 hr
    have hts : t < ops.size := (Array.getElem?_eq_some_iff.1 hot).1
    have h1 := List.all_eq_true.1 hg t (List.mem_range.2 hts)
    simp only [Bool.or_eq_true, decide_eq_true_eq] at h1
    rcases h1 with h1 | h1
    · omega
    · obtain ⟨j, hj, hj2⟩ := List.any_eq_true.1 h1
      simp only [Bool.and_eq_true, decide_eq_true_eq] at hj2
      exact waits_not_ready hj2.2 (getD_both (inv.tail j hj2.1 (by have := List.mem_range.1 hj; omega))) hr

/-- whichever comes up ahead of n is quiet -/
def wpHeadQ (P : Program) (md : Region.Mode) (ops : Array Oper) (C : World → Prop) (n : Nat) (L : Array Bool → Act → Prop) : Nat → Array Bool → Act → Prop
  | 0, listed, a => L listed a
  | f + 1, listed, a => Region.ready md ops listed ≠ [] ∧ ∀ i ∈ Region.ready md ops listed, i < n ∧ qOp P ops C i (wpHeadQ P md ops C n L f (listed.setIfInBounds i true)) a
theorem wpAny_of_headQ {n g : Nat} {L : Array Bool → Act → Prop} {Q' : Exit → Act → World → Prop} (hL : ∀ listed a w, C w → L listed a → wpAny P md ops Q' g listed a w) :
    ∀ (f : Nat) (listed : Array Bool) (a : Act) (w : World), C w → wpHeadQ P md ops C n L f listed a → wpAny P md ops Q' (f + g) listed a w
  | 0, listed, a, w, hw, h => by rw [Nat.zero_add]; exact hL _ _ _ hw h
  | f + 1, listed, a, w, hw, h => by
    rw [show f + 1 + g = (f + g) + 1 by omega]
    exact ⟨fun h0 => absurd h0 h.1, fun i hi => wpOp_of_qOp hw (fun a' w' hw' h' => wpAny_of_headQ hL f _ a' w' hw' h') (h.2 i hi).2⟩

/-- a quiet operation ahead of n that may come up now may be taken first -/
theorem seg_first {n i : Nat} {oi : Oper} {v : Value} {L : Array Bool → Act → Prop} (hi : ops[i]? = some oi) (hsel : ∀ (j : Nat) (o : Oper) cs b, ops[j]? = some o → o.op ≠ .select cs b)
    (hs : Region.sinkB md ops n = true) (hg : gateB md ops n = true) (hn : n < ops.size) (hin : i < n) (hdone : ∀ listed a, L listed a → ∀ j ∈ Region.ready md ops listed, n ≤ j) :
    ∀ (f : Nat) (listed : Array Bool) (a : Act), HeadInv md ops n listed →
      (∀ j oj, ops[j]? = some oj → j ≠ i → listed.getD j true = false → (∀ e ∈ oj.after, Region.binds md e = true → e.on ≠ i) → oi.apart ops oj = true) →
      i ∈ Region.ready md ops listed → YieldsIn P ops C oi v a →
      wpHeadQ P md ops C n L f (listed.setIfInBounds i true) (a.put oi.dst v) → wpHeadQ P md ops C n L (f + 1) listed a := by
  intro f
  induction f with
  | zero =>
    intro listed a inv _ hr hy H
    have hun := (mem_ready.1 hr).1
    refine ⟨fun h => (by rw [h] at hr; cases hr), fun j hj => ?_⟩
    have hjn : j < n := Nat.lt_of_not_le fun h => behind_waits hs hg hn inv hin hun j h hj
    refine ⟨hjn, ?_⟩
    by_cases hji : j = i
    · subst hji; exact hy.qOp hi H
    · have := hdone _ _ H j (ready_mono hj hji); omega
  | succ f ih =>
    intro listed a inv hfree hr hy H
    have hun := (mem_ready.1 hr).1
    refine ⟨fun h => (by rw [h] at hr; cases hr), fun j hj => ?_⟩
    have hjn : j < n := Nat.lt_of_not_le fun h => behind_waits hs hg hn inv hin hun j h hj
    refine ⟨hjn, ?_⟩
    by_cases hji : j = i
    · subst hji; exact hy.qOp hi H
    · obtain ⟨hjun, oj, hoj, hall⟩ := mem_ready.1 hj
      have hnot : ∀ e ∈ oj.after, Region.binds md e = true → e.on ≠ i := fun e he hb heq => by
        have h1 := hall e he hb
        rw [heq, getD_both hun] at h1
        cases h1
      refine qOp_mono (fun a' h3 => ?_) (qOp_put hoj (hfree j oj hoj hji hjun hnot) (fun cs b => hsel i oi cs b hi) (fun cs b => hsel j oj cs b hoj) hy (H.2 j (ready_mono hj hji)).2)
      refine ih (listed.setIfInBounds j true) a' (inv.set hj hjn) (fun k ok hk hki hkun hno => hfree k ok hk hki ?_ hno) (ready_mono hr (Ne.symm hji)) h3.1 ?_
      · by_cases hjk : j = k
        · subst hjk; exact hjun
        · rw [getD_set_ne true hjk] at hkun; exact hkun
      · rw [Array.setIfInBounds_comm _ _ hji]
        exact h3.2

/-- the quiet operations of a piece, one behind the other: what is done behind them -/
def segHead (md : Region.Mode) (ops : Array Oper) : Nat → Nat → Array Bool → Option (Array Bool)
  | 0, _, listed => some listed
  | f + 1, k, listed => if (Region.ready md ops listed).contains k && Region.free md ops listed k then segHead md ops f (k + 1) (listed.setIfInBounds k true) else none

theorem seg_lex {n : Nat} {Lq : Act → Prop} {fin : Array Bool} (hsel : Region.noSelect ops = true) (hs : Region.sinkB md ops n = true) (hg : gateB md ops n = true) (hn : n < ops.size) (hfin : Region.ready md ops fin = [n]) :
    ∀ (l : List Oper) (k : Nat) (listed : Array Bool) (a : Act), (∀ j, j < l.length → l[j]? = ops[k + j]?) → k + l.length = n → HeadInv md ops n listed →
    segHead md ops l.length k listed = some fin → wpQuiet P ops C Lq l a → wpHeadQ P md ops C n (fun listed' a' => listed' = fin ∧ Lq a') l.length listed a
  | [], k, listed, a, _, _, _, hB, h => by
    simp only [List.length_nil, segHead, Option.some.injEq] at hB
    exact ⟨hB, h⟩
  | o :: l, k, listed, a, hl, hk, inv, hB, h => by
    have h0 : ops[k]? = some o := by simpa using (hl 0 (by simp)).symm
    simp only [List.length_cons, segHead] at hB
    split at hB
    · rename_i hc
      simp only [Bool.and_eq_true] at hc
      obtain ⟨hr, hf⟩ := hc
      have hkn : k < n := by simp only [List.length_cons] at hk; omega
      have hr' : k ∈ Region.ready md ops listed := by simpa using hr
      have hst : qOp P ops C k (wpQuiet P ops C Lq l) a := by unfold qOp; simp only [h0]; exact h
      obtain ⟨v, hy, hK⟩ := yieldsIn_of_qOp h0 hst
      exact seg_first h0 (Region.noSelect_spec hsel) hs hg hn hkn (fun listed' a' hL j hj => by rw [hL.1, hfin] at hj; simp at hj; omega) l.length listed a inv (Region.free_spec h0 hf) hr' hy
        (seg_lex hsel hs hg hn hfin l (k + 1) _ _ (fun j hj => by have := hl (j + 1) (by simp; omega); simpa [Nat.add_assoc, Nat.add_comm 1 j] using this) (by simp only [List.length_cons] at hk; omega) (inv.set hr' hkn) hB hK)
    · cases hB

/-- an exit handed on -/
def SegQ (N : Act → World → Prop) (Q : Exit → Act → World → Prop) : Exit → Act → World → Prop
  | .normal, a, w => N a w
  | e, a, w => Q e a w

/-- the worlds that draws make -/
def Drawn (w : World) : World → Prop := fun w' => ∃ n, w' = w.drewN n
/-- THE WALK: pieces of quiet operations, so many each, and behind each one operation that may do anything -/
def wpSegs (P : Program) (ops : Array Oper) (Q : Exit → Act → World → Prop) : List Nat → List Oper → Act → World → Prop
  | [], l, a, w => wpQuiet P ops (fun w' => ∃ n, w' = w.drewN n) (fun a' => ∀ w', (∃ n, w' = w.drewN n) → Q .normal a' w') l a
  | n :: ns, l, a, w => wpQuiet P ops (fun w' => ∃ n, w' = w.drewN n) (fun a' => ∀ w', (∃ n, w' = w.drewN n) → match l.drop n with | [] => False | o :: r => wpList P ops (SegQ (wpSegs P ops Q ns r) Q) [o] a' w') (l.take n) a

def segsB (md : Region.Mode) (ops : Array Oper) : List Nat → Nat → Array Bool → Bool
  | [], k, listed => Region.lexFrom md ops (ops.size - k) k listed
  | n :: ns, k, listed => match segHead md ops n k listed with
    | none => false
    | some fin => Region.sinkB md ops (k + n) && gateB md ops (k + n) && decide (k + n < ops.size) && decide (Region.ready md ops fin = [k + n]) && segsB md ops ns (k + n + 1) (fin.setIfInBounds (k + n) true)

theorem segHead_inv {n : Nat} : ∀ (f k : Nat) (listed fin : Array Bool), k + f ≤ n → HeadInv md ops n listed → segHead md ops f k listed = some fin → HeadInv md ops n fin
  | 0, k, listed, fin, _, inv, h => by simp only [segHead, Option.some.injEq] at h; exact h ▸ inv
  | f + 1, k, listed, fin, hk, inv, h => by
    simp only [segHead] at h
    split at h
    · rename_i hc
      simp only [Bool.and_eq_true] at hc
      exact segHead_inv f (k + 1) _ fin (by omega) (inv.set (by simpa using hc.1) (by omega)) h
    · cases h

theorem wp_to_segQ {o : Oper} {a : Act} {w : World} {N : Act → World → Prop} {Q : Exit → Act → World → Prop} {K : Act → World → Prop} (hK : ∀ a w, N a w → K a w) (h : o.wp P a w (fun a w => SegQ N Q .normal a w) (SegQ N Q)) : o.wp P a w K Q := by
  unfold Oper.wp at *
  generalize (execOp a.eval o).run P w = r at *
  cases r with
  | ok n w' =>
    cases n <;> simp only [Oper.upon] at h ⊢ <;> try exact h
    case value v => exact hK _ _ h
    case skip => exact hK _ _ h
    case defer d => exact hK _ _ h
    case enter f args =>
      refine Calls.mono h fun e w'' he => ?_
      cases e with
      | returned u => exact hK _ _ he
      | panicked c => exact he
      | outgrown => exact he
    case row row args => exact Rows.mono h fun u w'' he => hK _ _ he
  | halt x w' =>
    cases x <;> simp only [Oper.upon] at h ⊢ <;> exact h

theorem wpAny_segs {Q : Exit → Act → World → Prop} (hsel : Region.noSelect ops = true) : ∀ (ns : List Nat) (k : Nat) (l : List Oper) (listed : Array Bool) (a : Act) (w : World), (∀ j, l[j]? = ops[k + j]?) → k + l.length = ops.size →
    HeadInv md ops k listed → segsB md ops ns k listed = true → wpSegs P ops Q ns l a w → wpAny P md ops Q l.length listed a w
  | [], k, l, listed, a, w, hl, hk, inv, hB, h => by
    simp only [segsB] at hB
    rw [show ops.size - k = l.length by omega] at hB
    exact wpAny_of_quiet (C := fun w' => ∃ n, w' = w.drewN n) (Q := fun a' => ∀ w', (∃ n, w' = w.drewN n) → Q .normal a' w') (fun _ w' hw' h => h w' hw') _ _ _ _ ⟨0, rfl⟩ (wpAnyQ_lex hsel l k listed a hl hB h)
  | n :: ns, k, l, listed, a, w, hl, hk, inv, hB, h => by
    simp only [segsB] at hB
    split at hB
    · cases hB
    · rename_i fin hfin
      simp only [Bool.and_eq_true, decide_eq_true_eq] at hB
      obtain ⟨⟨⟨⟨hs, hg⟩, hlt⟩, hrd⟩, hB⟩ := hB
      have hnl : n < l.length := by omega
      have htl : (l.take n).length = n := by rw [List.length_take]; omega
      obtain ⟨o, r, hor⟩ : ∃ o r, l.drop n = o :: r := by
        cases hd : l.drop n with
        | nil => have := congrArg List.length hd; rw [List.length_drop] at this; simp at this; omega
        | cons o r => exact ⟨o, r, rfl⟩
      have hlr : r.length = l.length - n - 1 := by have := congrArg List.length hor; rw [List.length_drop] at this; simp at this; omega
      have hgo : ∀ j, (o :: r)[j]? = ops[k + n + j]? := fun j => by rw [← hor, List.getElem?_drop, hl, Nat.add_assoc]
      have ho : ops[k + n]? = some o := by simpa using (hgo 0).symm
      have inv' : HeadInv md ops (k + n) listed := ⟨inv.size, inv.closed, fun t ht hts => inv.tail t (by omega) hts⟩
      simp only [wpSegs, hor] at h
      have H := seg_lex (C := fun w' => ∃ n, w' = w.drewN n) (Lq := fun a' => ∀ w', (∃ n, w' = w.drewN n) → wpList P ops (SegQ (wpSegs P ops Q ns r) Q) [o] a' w') hsel hs hg hlt hrd (l.take n) k listed a (fun j hj => by
        have hj' : j < n := by omega
        rw [List.getElem?_take_of_lt hj', hl]) (by rw [htl]) inv' (by rw [htl]; exact hfin) h
      rw [htl] at H
      have hlen : l.length = n + (r.length + 1) := by omega
      rw [hlen]
      refine wpAny_of_headQ (C := fun w' => ∃ n, w' = w.drewN n) (g := r.length + 1) (fun listed' a' w' hw' hL => ?_) n listed a w ⟨0, rfl⟩ H
      obtain ⟨rfl, hL⟩ := hL
      replace hL := hL w' hw'
      refine ⟨fun h0 => (by rw [h0] at hrd; cases hrd), fun i hi => ?_⟩
      rw [hrd] at hi
      obtain rfl : i = k + n := by simpa using hi
      have i2 := segHead_inv n k listed listed' (Nat.le_refl _) inv' hfin
      have i3 : HeadInv md ops (k + n + 1) listed' := ⟨i2.size, i2.closed, fun t ht hts => i2.tail t (by omega) hts⟩
      have invf : HeadInv md ops (k + n + 1) (listed'.setIfInBounds (k + n) true) := i3.set (by rw [hrd]; simp) (by omega)
      have hnext : ∀ a2 w2, wpSegs P ops Q ns r a2 w2 → wpAny P md ops Q r.length (listed'.setIfInBounds (k + n) true) a2 w2 := fun a2 w2 h2 =>
        wpAny_segs hsel ns (k + n + 1) r _ a2 w2 (fun j => by have := hgo (j + 1); simpa [Nat.add_assoc, Nat.add_comm 1 j] using this) (by omega) invf hB h2
      unfold wpOp
      simp only [ho]
      simp only [wpList] at hL
      split at hL
      · rename_i hw
        rw [if_pos hw]
        rcases hL with hL | hL
        · exact .inl (wp_to_segQ hnext hL)
        · exact .inr ⟨hL.1, hL.2⟩
      · rename_i hw
        rw [if_neg hw]
        exact hnext _ _ hL

theorem wp_region_segs {id : Nat} {Q : Exit → Act → World → Prop} {a : Act} {w : World} {l : List Oper} (ns : List Nat) (hm : P.follows .mixedOrders = true)
    (hB : (Region.noSelect l.toArray && segsB .any l.toArray ns 0 (Array.replicate l.toArray.size false)) = true) (h : wpSegs P l.toArray Q ns l a w.drew) : (Code.region id l.toArray true).wp P Q a w := by
  simp only [Bool.and_eq_true] at hB
  refine wp_region_any hm ?_
  have inv0 : HeadInv .any l.toArray 0 (Array.replicate l.toArray.size false) :=
    ⟨by simp, fun j oj _ hl => (by rw [getD_replicate_false] at hl; cases hl), fun t _ ht => getD_in (by simpa using ht) (getD_replicate_false _ _)⟩
  have := wpAny_segs (Q := Q) hB.1 ns 0 l _ a w.drew (fun j => by simp) (by simp) inv0 hB.2 h
  simpa using this
end
end Go.Proofs.YtaojgcioljcpmaaGreatDoor
