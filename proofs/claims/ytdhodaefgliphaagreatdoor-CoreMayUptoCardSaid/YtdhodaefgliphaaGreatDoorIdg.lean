/- A region that draws its order: quiet operations (that read, or call what only draws), in whatever order, between a few that may do anything, each of which comes up alone. Of no program. -/
import Derived.StillTail
import Derived.Deep.QuietTactic
import Derived.BigQuiet
import Derived.Test.YtdhodaefgliphaaGreatDoorCor
import Derived.Test.YtdhodaefgliphaaGreatDoorChecked
import Derived.Deep.Light
import Derived.Deep.RegionWith
import Derived.ChangeAlike
set_option linter.unusedVariables false
set_option linter.unusedSimpArgs false
namespace Go.Proofs.YtdhodaefgliphaaGreatDoor
open Go
section
variable {P : Program} {ops : Array Oper} {md : Region.Mode} {C : World → Prop}
def gateB (md : Region.Mode) (ops : Array Oper) (n : Nat) : Bool :=
 (List.range ops.size).all fun t => decide (t ≤ n) || (List.range t).any fun j => decide (n ≤ j) && Region.waitsFor md ops t j
theorem waits_not_ready {t j : Nat} {listed : Array Bool} (hw : Region.waitsFor md ops t j = true) (hj : listed.getD j false = false) : t ∉ Region.ready md ops listed := by
 intro hr
 obtain ⟨o, ho, e, he, hb, hon⟩ := Region.waitsFor_spec hw
 obtain ⟨_, o', ho', hall⟩ := mem_ready.1 hr
 obtain rfl : o' = o := Option.some.inj (ho'.symm.trans ho)
 have := hall e he hb
 rw [hon, hj] at this
 cases this
theorem behind_waits {n : Nat} {listed : Array Bool} (hs : Region.sinkB md ops n = true) (hg : gateB md ops n = true) (hn : n < ops.size) (inv : HeadInv md ops n listed)
  {i : Nat} (hi : i < n) (hun : listed.getD i true = false) : ∀ t, n ≤ t → t ∉ Region.ready md ops listed := by
 have hnn : ∀ (d i : Nat), n - i = d → i < n → listed.getD i true = false → n ∉ Region.ready md ops listed := by
  intro d
  induction d using Nat.strongRecOn with
  | _ d ih =>
    intro i hd hi hun
    obtain ⟨j, hj, hj2⟩ := List.any_eq_true.1 (List.all_eq_true.1 hs i (List.mem_range.2 hi))
    simp only [Bool.and_eq_true, decide_eq_true_eq] at hj2
    have hjle : j ≤ n := by have := List.mem_range.1 hj; omega
    rcases Nat.lt_or_ge j n with hjn | hjn
    ·refine ih (n - j) (by omega) j rfl hjn ?_
     cases hl : listed.getD j false with
     | false => exact getD_in (by rw [inv.size]; omega) hl
     | true =>
       obtain ⟨oj, hoj, e, he, hb, hon⟩ := Region.waitsFor_spec hj2.2
       have := inv.closed j oj hoj hl e he hb
       rw [hon, getD_both hun] at this
       cases this
    ·obtain rfl : j = n := by omega
     exact waits_not_ready hj2.2 (getD_both hun)
 intro t ht
 rcases Nat.eq_or_lt_of_le ht with rfl | hlt
 ·exact hnn _ i rfl hi hun
 ·intro hr
  obtain ⟨_, ot, hot, _⟩ := mem_ready.1 hr
  have hts : t < ops.size := (Array.getElem?_eq_some_iff.1 hot).1
  have h1 := List.all_eq_true.1 hg t (List.mem_range.2 hts)
  simp only [Bool.or_eq_true, decide_eq_true_eq] at h1
  rcases h1 with h1 | h1
  ·omega
  ·obtain ⟨j, hj, hj2⟩ := List.any_eq_true.1 h1
   simp only [Bool.and_eq_true, decide_eq_true_eq] at hj2
   exact waits_not_ready hj2.2 (getD_both (inv.tail j hj2.1 (by have := List.mem_range.1 hj; omega))) hr
def wpHeadQ (P : Program) (md : Region.Mode) (ops : Array Oper) (C : World → Prop) (n : Nat) (L : Array Bool → Act → Prop) : Nat → Array Bool → Act → Prop
 | 0, listed, a => L listed a
 | f + 1, listed, a => Region.ready md ops listed ≠ [] ∧ ∀ i ∈ Region.ready md ops listed, i < n ∧ qOp P ops C i (wpHeadQ P md ops C n L f (listed.setIfInBounds i true)) a
theorem wpAny_of_headQ {n g : Nat} {L : Array Bool → Act → Prop} {Q' : Exit → Act → World → Prop} (hL : ∀ listed a w, C w → L listed a → wpAny P md ops Q' g listed a w) :
  ∀ (f : Nat) (listed : Array Bool) (a : Act) (w : World), C w → wpHeadQ P md ops C n L f listed a → wpAny P md ops Q' (f + g) listed a w
 | 0, listed, a, w, hw, h => by rw [Nat.zero_add]; exact hL _ _ _ hw h
 | f + 1, listed, a, w, hw, h => by
   rw [show f + 1 + g = (f + g) + 1 by omega]
   exact ⟨fun h0 => absurd h0 h.1, fun i hi => wpOp_of_qOp hw (fun a' w' hw' h' => wpAny_of_headQ hL f _ a' w' hw' h') (h.2 i hi).2⟩
theorem seg_first {n i : Nat} {oi : Oper} {v : Value} {L : Array Bool → Act → Prop} (hi : ops[i]? = some oi) (hsel : ∀ (j : Nat) (o : Oper) cs b, ops[j]? = some o → o.op ≠ .select cs b)
  (hs : Region.sinkB md ops n = true) (hg : gateB md ops n = true) (hn : n < ops.size) (hin : i < n) (hdone : ∀ listed a, L listed a → ∀ j ∈ Region.ready md ops listed, n ≤ j) :
  ∀ (f : Nat) (listed : Array Bool) (a : Act), HeadInv md ops n listed →
    (∀ j oj, ops[j]? = some oj → j ≠ i → listed.getD j true = false → (∀ e ∈ oj.after, Region.binds md e = true → e.on ≠ i) → oi.apart ops oj = true) →
    i ∈ Region.ready md ops listed → YieldsIn P ops C oi v a →
    wpHeadQ P md ops C n L f (listed.setIfInBounds i true) (a.put oi.dst v) → wpHeadQ P md ops C n L (f + 1) listed a := by
 intro f
 induction f with
 | zero =>
   intro listed a inv _ hr hy H
   have hun := (mem_ready.1 hr).1
   refine ⟨fun h => (by rw [h] at hr; cases hr), fun j hj => ?_⟩
   have hjn : j < n := Nat.lt_of_not_le fun h => behind_waits hs hg hn inv hin hun j h hj
   refine ⟨hjn, ?_⟩
   by_cases hji : j = i
   ·subst hji; exact hy.qOp hi H
   ·have := hdone _ _ H j (ready_mono hj hji); omega
 | succ f ih =>
   intro listed a inv hfree hr hy H
   have hun := (mem_ready.1 hr).1
   refine ⟨fun h => (by rw [h] at hr; cases hr), fun j hj => ?_⟩
   have hjn : j < n := Nat.lt_of_not_le fun h => behind_waits hs hg hn inv hin hun j h hj
   refine ⟨hjn, ?_⟩
   by_cases hji : j = i
   ·subst hji; exact hy.qOp hi H
   ·obtain ⟨hjun, oj, hoj, hall⟩ := mem_ready.1 hj
    have hnot : ∀ e ∈ oj.after, Region.binds md e = true → e.on ≠ i := fun e he hb heq => by
     have h1 := hall e he hb
     rw [heq, getD_both hun] at h1
     cases h1
    refine qOp_mono (fun a' h3 => ?_) (qOp_put hoj (hfree j oj hoj hji hjun hnot) (fun cs b => hsel i oi cs b hi) (fun cs b => hsel j oj cs b hoj) hy (H.2 j (ready_mono hj hji)).2)
    refine ih (listed.setIfInBounds j true) a' (inv.set hj hjn) (fun k ok hk hki hkun hno => hfree k ok hk hki ?_ hno) (ready_mono hr (Ne.symm hji)) h3.1 ?_
    ·by_cases hjk : j = k
     ·subst hjk; exact hjun
     ·rw [getD_set_ne true hjk] at hkun; exact hkun
    ·rw [Array.setIfInBounds_comm _ _ hji]
     exact h3.2
def segHead (md : Region.Mode) (ops : Array Oper) : Nat → Nat → Array Bool → Option (Array Bool)
 | 0, _, listed => some listed
 | f + 1, k, listed => if (Region.ready md ops listed).contains k && Region.free md ops listed k then segHead md ops f (k + 1) (listed.setIfInBounds k true) else none
theorem seg_lex {n : Nat} {Lq : Act → Prop} {fin : Array Bool} (hsel : Region.noSelect ops = true) (hs : Region.sinkB md ops n = true) (hg : gateB md ops n = true) (hn : n < ops.size) (hfin : Region.ready md ops fin = [n]) :
  ∀ (l : List Oper) (k : Nat) (listed : Array Bool) (a : Act), (∀ j, j < l.length → l[j]? = ops[k + j]?) → k + l.length = n → HeadInv md ops n listed →
  segHead md ops l.length k listed = some fin → wpQuiet P ops C Lq l a → wpHeadQ P md ops C n (fun listed' a' => listed' = fin ∧ Lq a') l.length listed a
 | [], k, listed, a, _, _, _, hB, h => by
   simp only [List.length_nil, segHead, Option.some.injEq] at hB
   exact ⟨hB, h⟩
 | o :: l, k, listed, a, hl, hk, inv, hB, h => by
   have h0 : ops[k]? = some o := by simpa using (hl 0 (by simp)).symm
   simp only [List.length_cons, segHead] at hB
   split at hB
   ·rename_i hc
    simp only [Bool.and_eq_true] at hc
    obtain ⟨hr, hf⟩ := hc
    have hkn : k < n := by simp only [List.length_cons] at hk; omega
    have hr' : k ∈ Region.ready md ops listed := by simpa using hr
    have hst : qOp P ops C k (wpQuiet P ops C Lq l) a := by unfold qOp; simp only [h0]; exact h
    obtain ⟨v, hy, hK⟩ := yieldsIn_of_qOp h0 hst
    exact seg_first h0 (Region.noSelect_spec hsel) hs hg hn hkn (fun listed' a' hL j hj => by rw [hL.1, hfin] at hj; simp at hj; omega) l.length listed a inv (Region.free_spec h0 hf) hr' hy
     (seg_lex hsel hs hg hn hfin l (k + 1) _ _ (fun j hj => by have := hl (j + 1) (by simp; omega); simpa [Nat.add_assoc, Nat.add_comm 1 j] using this) (by simp only [List.length_cons] at hk; omega) (inv.set hr' hkn) hB hK)
   ·cases hB
def SegQ (N : Act → World → Prop) (Q : Exit → Act → World → Prop) : Exit → Act → World → Prop
 | .normal, a, w => N a w
 | e, a, w => Q e a w
def wpSegs (P : Program) (ops : Array Oper) (Q : Exit → Act → World → Prop) : List Nat → List Oper → Act → World → Prop
 | [], l, a, w => wpQuiet P ops (fun w' => ∃ n, w' = w.drewN n) (fun a' => ∀ w', (∃ n, w' = w.drewN n) → Q .normal a' w') l a
 | n :: ns, l, a, w => wpQuiet P ops (fun w' => ∃ n, w' = w.drewN n) (fun a' => ∀ w', (∃ n, w' = w.drewN n) → match l.drop n with | [] => False | o :: r => wpList P ops (SegQ (wpSegs P ops Q ns r) Q) [o] a' w') (l.take n) a
def segsB (md : Region.Mode) (ops : Array Oper) : List Nat → Nat → Array Bool → Bool
 | [], k, listed => Region.lexFrom md ops (ops.size - k) k listed
 | n :: ns, k, listed => match segHead md ops n k listed with
   | none => false
   | some fin => Region.sinkB md ops (k + n) && gateB md ops (k + n) && decide (k + n < ops.size) && decide (Region.ready md ops fin = [k + n]) && segsB md ops ns (k + n + 1) (fin.setIfInBounds (k + n) true)
theorem segHead_inv {n : Nat} : ∀ (f k : Nat) (listed fin : Array Bool), k + f ≤ n → HeadInv md ops n listed → segHead md ops f k listed = some fin → HeadInv md ops n fin
 | 0, k, listed, fin, _, inv, h => by simp only [segHead, Option.some.injEq] at h; exact h ▸ inv
 | f + 1, k, listed, fin, hk, inv, h => by
   simp only [segHead] at h
   split at h
   ·rename_i hc
    simp only [Bool.and_eq_true] at hc
    exact segHead_inv f (k + 1) _ fin (by omega) (inv.set (by simpa using hc.1) (by omega)) h
   ·cases h
theorem wp_to_segQ {o : Oper} {a : Act} {w : World} {N : Act → World → Prop} {Q : Exit → Act → World → Prop} {K : Act → World → Prop} (hK : ∀ a w, N a w → K a w) (h : o.wp P a w (fun a w => SegQ N Q .normal a w) (SegQ N Q)) : o.wp P a w K Q := by
 unfold Oper.wp at *
 generalize (execOp a.eval o).run P w = r at *
 cases r with
 | ok n w' =>
   cases n <;> simp only [Oper.upon] at h ⊢ <;> try exact h
   case value v => exact hK _ _ h
   case skip => exact hK _ _ h
   case defer d => exact hK _ _ h
   case enter f args =>
    refine Calls.mono h fun e w'' he => ?_
    cases e with
    | returned u => exact hK _ _ he
    | panicked c => exact he
    | outgrown => exact he
   case row row args => exact Rows.mono h fun u w'' he => hK _ _ he
 | halt x w' =>
   cases x <;> simp only [Oper.upon] at h ⊢ <;> exact h
theorem wpAny_segs {Q : Exit → Act → World → Prop} (hsel : Region.noSelect ops = true) : ∀ (ns : List Nat) (k : Nat) (l : List Oper) (listed : Array Bool) (a : Act) (w : World), (∀ j, l[j]? = ops[k + j]?) → k + l.length = ops.size →
  HeadInv md ops k listed → segsB md ops ns k listed = true → wpSegs P ops Q ns l a w → wpAny P md ops Q l.length listed a w
 | [], k, l, listed, a, w, hl, hk, inv, hB, h => by
   simp only [segsB] at hB
   rw [show ops.size - k = l.length by omega] at hB
   exact wpAny_of_quiet (C := fun w' => ∃ n, w' = w.drewN n) (Q := fun a' => ∀ w', (∃ n, w' = w.drewN n) → Q .normal a' w') (fun _ w' hw' h => h w' hw') _ _ _ _ ⟨0, rfl⟩ (wpAnyQ_lex hsel l k listed a hl hB h)
 | n :: ns, k, l, listed, a, w, hl, hk, inv, hB, h => by
   simp only [segsB] at hB
   split at hB
   ·cases hB
   ·rename_i fin hfin
    simp only [Bool.and_eq_true, decide_eq_true_eq] at hB
    obtain ⟨⟨⟨⟨hs, hg⟩, hlt⟩, hrd⟩, hB⟩ := hB
    have hnl : n < l.length := by omega
    have htl : (l.take n).length = n := by rw [List.length_take]; omega
    obtain ⟨o, r, hor⟩ : ∃ o r, l.drop n = o :: r := by
     cases hd : l.drop n with
     | nil => have := congrArg List.length hd; rw [List.length_drop] at this; simp at this; omega
     | cons o r => exact ⟨o, r, rfl⟩
    have hlr : r.length = l.length - n - 1 := by have := congrArg List.length hor; rw [List.length_drop] at this; simp at this; omega
    have hgo : ∀ j, (o :: r)[j]? = ops[k + n + j]? := fun j => by rw [← hor, List.getElem?_drop, hl, Nat.add_assoc]
    have ho : ops[k + n]? = some o := by simpa using (hgo 0).symm
    have inv' : HeadInv md ops (k + n) listed := ⟨inv.size, inv.closed, fun t ht hts => inv.tail t (by omega) hts⟩
    simp only [wpSegs, hor] at h
    have H := seg_lex (C := fun w' => ∃ n, w' = w.drewN n) (Lq := fun a' => ∀ w', (∃ n, w' = w.drewN n) → wpList P ops (SegQ (wpSegs P ops Q ns r) Q) [o] a' w') hsel hs hg hlt hrd (l.take n) k listed a (fun j hj => by
     have hj' : j < n := by omega
     rw [List.getElem?_take_of_lt hj', hl]) (by rw [htl]) inv' (by rw [htl]; exact hfin) h
    rw [htl] at H
    have hlen : l.length = n + (r.length + 1) := by omega
    rw [hlen]
    refine wpAny_of_headQ (C := fun w' => ∃ n, w' = w.drewN n) (g := r.length + 1) (fun listed' a' w' hw' hL => ?_) n listed a w ⟨0, rfl⟩ H
    obtain ⟨rfl, hL⟩ := hL
    replace hL := hL w' hw'
    refine ⟨fun h0 => (by rw [h0] at hrd; cases hrd), fun i hi => ?_⟩
    rw [hrd] at hi
    obtain rfl : i = k + n := by simpa using hi
    have i2 := segHead_inv n k listed listed' (Nat.le_refl _) inv' hfin
    have i3 : HeadInv md ops (k + n + 1) listed' := ⟨i2.size, i2.closed, fun t ht hts => i2.tail t (by omega) hts⟩
    have invf : HeadInv md ops (k + n + 1) (listed'.setIfInBounds (k + n) true) := i3.set (by rw [hrd]; simp) (by omega)
    have hnext : ∀ a2 w2, wpSegs P ops Q ns r a2 w2 → wpAny P md ops Q r.length (listed'.setIfInBounds (k + n) true) a2 w2 := fun a2 w2 h2 =>
     wpAny_segs hsel ns (k + n + 1) r _ a2 w2 (fun j => by have := hgo (j + 1); simpa [Nat.add_assoc, Nat.add_comm 1 j] using this) (by omega) invf hB h2
    unfold wpOp
    simp only [ho]
    simp only [wpList] at hL
    split at hL
    ·rename_i hw
     rw [if_pos hw]
     rcases hL with hL | hL
     ·exact .inl (wp_to_segQ hnext hL)
     ·exact .inr ⟨hL.1, hL.2⟩
    ·rename_i hw
     rw [if_neg hw]
     exact hnext _ _ hL
theorem wp_region_segs {id : Nat} {Q : Exit → Act → World → Prop} {a : Act} {w : World} {l : List Oper} (ns : List Nat) (hm : P.follows .mixedOrders = true)
  (hB : (Region.noSelect l.toArray && segsB .any l.toArray ns 0 (Array.replicate l.toArray.size false)) = true) (h : wpSegs P l.toArray Q ns l a w.drew) : (Code.region id l.toArray true).wp P Q a w := by
 simp only [Bool.and_eq_true] at hB
 refine wp_region_any hm ?_
 have inv0 : HeadInv .any l.toArray 0 (Array.replicate l.toArray.size false) :=
  ⟨by simp, fun j oj _ hl => (by rw [getD_replicate_false] at hl; cases hl), fun t _ ht => getD_in (by simpa using ht) (getD_replicate_false _ _)⟩
 have := wpAny_segs (Q := Q) hB.1 ns 0 l _ a w.drew (fun j => by simp) (by simp) inv0 hB.2 h
 simpa using this
end
end Go.Proofs.YtdhodaefgliphaaGreatDoor
namespace Go.Proofs.YtdhodaefgliphaaGreatDoor
open Go.RowKit
theorem ret_i {a b : Int} (h : a = b) : Ending.returned (.int .i64 a) = .returned (.int .i64 b) := by rw [h]
theorem ret_b {a b : Bool} (h : a = b) : Ending.returned (.bool a) = .returned (.bool b) := by rw [h]
def idxZ {α : Type} (p : α → Bool) : List α → Int → Int
 | [], _ => -1
 | x :: r, k => if p x then k else idxZ p r (k + 1)
theorem idxZ_drop {α : Type} (p : α → Bool) (l : List α) (k : Nat) (h : k < l.length) : idxZ p (l.drop k) k = if p l[k] then (k : Int) else idxZ p (l.drop (k + 1)) ((k + 1 : Nat) : Int) := by
 rw [List.drop_eq_getElem_cons h]
 simp [idxZ]
theorem idxZ_end {α : Type} (p : α → Bool) (l : List α) (k : Nat) (h : l.length ≤ k) : idxZ p (l.drop k) k = -1 := by
 rw [List.drop_of_length_le h]; rfl
theorem idxZ_ge {α : Type} (p : α → Bool) : ∀ (l : List α) (k : Int), 0 ≤ k → (decide (0 ≤ idxZ p l k) = l.any p)
 | [], k, h => by simp [idxZ]
 | x :: r, k, h => by
   unfold idxZ
   by_cases hx : p x = true
   ·simp [hx, h]
   ·simp only [hx, Bool.false_eq_true, if_false, List.any_cons, Bool.false_or]
    exact idxZ_ge p r (k + 1) (by omega)
def Enters (P : Program) (g : FuncId) : Prop := ∀ (args : Array Value) (w : World), Sem.run P (callFunc g args) w = .ok (.enter g args) w
theorem enters {P : Program} {f : FuncId} {fn : Func} {c : Code} (hf : P.funcs[f]? = some fn) (hname : (fn.name == "runtime.NumGoroutine") = false) (hb : fn.body = some c) : Enters P f := by
 intro args w
 have h1 : fn.name ≠ "runtime.NumGoroutine" := by simpa using hname
 simp [callFunc, hf, h1, hb]
set_option maxHeartbeats 1000000 in
theorem indexTy (l : List Ty) (v : Value) (g : FuncId) (caps : Array Value) (p : Ty → Bool) (w : World) (hn : l.length ≤ 1048576) (hin : Enters Tryz.prog g) (hr : Rd w w.heap.size v (.list 5 l.length (l.flatMap Ty.d)))
  (hp : ∀ (i : Nat) (h : i < l.length) (W : World) (us : List Value), Below w.heap.size w W → Rds w w.heap.size us (l[i]'h).d → Calls Tryz.prog g (#[.agg us.toArray] ++ caps) W fun e w' => e = .returned (.bool (p (l[i]'h))) ∧ Below W.heap.size W w') :
  Calls Tryz.prog 122 #[v, .func (.func g) #[] caps] w fun e w' => e = .returned (.int .i64 (idxZ p l 0)) ∧ Below w.heap.size w w' := by
 obtain ⟨a, cap, rfl⟩ := hr.slice_inv
 have HP := Lib.hid hp
 clear hp
 unfold Enters at hin
 go_enter Tryz.func122, Tryz.ntmps122
 go_wp2
 go_loopw [8] (fun u wr => ∃ k : Nat, k ≤ l.length ∧ u = .int .i64 k ∧ Hid (idxZ p l 0 = idxZ p (l.drop k) k) ∧ Below w.heap.size w wr) (fun u _ => l.length - (intOf u).toNat)
 case atStart => exact ⟨0, Nat.zero_le _, rfl, rfl, Below.refl _ _⟩
 case round =>
  obtain ⟨k, hk, rfl, HE, hbel⟩ := hrel
  by_cases hlt : k < l.length
  ·obtain ⟨b, off, cap', us, hv, hb, hc, hcell, hus⟩ := hr.elem Ty.d_len rfl k hlt (by omega)
   injection hv with ha hn' hcap
   subst ha hcap
   obtain ⟨v4, rfl, k0, k1, k2, k3, k4⟩ := Ty.cells hus
   have c0 := (hbel.cell (p := ⟨b, off + k * 5, none⟩) hb).trans (hcell 0 _ rfl)
   have c1 := (hbel.cell (p := ⟨b, off + k * 5 + 1, none⟩) hb).trans (hcell 1 _ rfl)
   have c2 := (hbel.cell (p := ⟨b, off + k * 5 + 2, none⟩) hb).trans (hcell 2 _ rfl)
   have c3 := (hbel.cell (p := ⟨b, off + k * 5 + 3, none⟩) hb).trans (hcell 3 _ rfl)
   have c4 := (hbel.cell (p := ⟨b, off + k * 5 + 4, none⟩) hb).trans (hcell 4 _ rfl)
   clear hcell
   go_wp2_with fail
   refine (HP.out k hlt wr _ hbel hus).mono ?_
   rintro e w2 ⟨rfl, hb2⟩
   have hs2 := hb2.size
   by_cases hpk : p l[k] = true
   ·rw [hpk]
    go_wp2
    go_ret
    refine ⟨ret_i ?_, hbel.trans (hb2.mono hbel.size)⟩
    rw [HE.out, idxZ_drop p l k hlt, if_pos hpk]
   ·have hpk' : p l[k] = false := by simpa using hpk
    rw [hpk']
    go_wp2
    go_roundw
    case rel => exact ⟨k + 1, hlt, by go_num, by show _ = _; rw [HE.out, idxZ_drop p l k hlt, if_neg hpk], hbel.trans (hb2.mono hbel.size)⟩
    case measure => simp [intOf]; omega
  ·go_wp2
   go_ret
   exact ⟨ret_i (by rw [HE.out, idxZ_end p l k (by omega)]), hbel⟩
theorem containsTy (l : List Ty) (v : Value) (g : FuncId) (caps : Array Value) (p : Ty → Bool) (w : World) (hn : l.length ≤ 1048576) (hin : Enters Tryz.prog g) (hr : Rd w w.heap.size v (.list 5 l.length (l.flatMap Ty.d)))
  (hp : ∀ (i : Nat) (h : i < l.length) (W : World) (us : List Value), Below w.heap.size w W → Rds w w.heap.size us (l[i]'h).d → Calls Tryz.prog g (#[.agg us.toArray] ++ caps) W fun e w' => e = .returned (.bool (p (l[i]'h))) ∧ Below W.heap.size W w') :
  Calls Tryz.prog 76 #[v, .func (.func g) #[] caps] w fun e w' => e = .returned (.bool (l.any p)) ∧ Below w.heap.size w w' := by
 obtain ⟨a, cap, rfl⟩ := hr.slice_inv
 have HC := Lib.hid (indexTy l _ g caps p w hn hin hr hp)
 have HG := Lib.hid (idxZ_ge p l 0 (by omega))
 obtain ⟨z, hz⟩ : ∃ z, idxZ p l 0 = z := ⟨_, rfl⟩
 rw [hz] at HC HG
 clear hp hin hz hr
 go_enter Tryz.func76, Tryz.ntmps76
 go_wp2_with fail
 refine HC.out.mono ?_
 rintro e w2 ⟨rfl, hb2⟩
 go_wp2
 go_ret
 exact ⟨ret_b HG.out, hb2⟩
end Go.Proofs.YtdhodaefgliphaaGreatDoor
namespace Go.Proofs.YtdhodaefgliphaaGreatDoor
open Go.RowKit
def i64s (l : List Int) : List Value := l.map (Value.int .i64)
theorem i64s_len (l : List Int) : (i64s l).length = l.length := by simp [i64s]
theorem Row.cellAt {w : World} {B : Nat} {v : Value} {l : List Int} (h : Row w B 1 v l.length (i64s l)) (k : Nat) (hk : k < l.length) :
  ∃ b off cap, v = .slice (some ⟨b, off, none⟩) l.length cap ∧ b < B ∧ l.length ≤ cap ∧ w.cell? ⟨b, off + k, none⟩ = some (.int .i64 l[k]) := by
 obtain ⟨h1, h2, h3⟩ := h
 rcases h3 with ⟨h0, _⟩ | ⟨b, off, cap, rfl, hb, hc, hx⟩
 ·omega
 ·exact ⟨b, off, cap, rfl, hb, hc, hx k _ (by simp [i64s, hk])⟩
theorem take_eq_step {xs ys : List Int} {k : Nat} (hx : k < xs.length) (hy : k < ys.length) (h : xs.take k = ys.take k) (e : xs[k] = ys[k]) : xs.take (k + 1) = ys.take (k + 1) := by
 rw [List.take_succ_eq_append_getElem hx, List.take_succ_eq_append_getElem hy, h, e]
set_option maxHeartbeats 1000000 in
theorem equalZ (v1 v2 : Value) (xs ys : List Int) (w : World) (h1 : Row w w.heap.size 1 v1 xs.length (i64s xs)) (h2 : Row w w.heap.size 1 v2 ys.length (i64s ys)) (hx : xs.length ≤ 1048576) (hy : ys.length ≤ 1048576) :
  Calls Tryz.prog 33 #[v1, v2] w fun e w' => e = .returned (.bool (decide (xs = ys))) ∧ ∃ n, w' = w.drewN n := by
 obtain ⟨a1, c1, e1⟩ := h1.slice
 obtain ⟨a2, c2, e2⟩ := h2.slice
 subst e1 e2
 by_cases hl : xs.length = ys.length
 ·have t1 : ((xs.length : Int) != (ys.length : Int)) = false := by simp [hl]
  have HL := Lib.hid hl
  clear hl
  go_enter Tryz.func33, Tryz.ntmps33
  go_wp2
  go_loopw [13] (fun u wr => ∃ k nq : Nat, k ≤ xs.length ∧ u = .int .i64 k ∧ Hid (xs.take k = ys.take k) ∧ wr = w.drewN nq) (fun u _ => xs.length - (intOf u).toNat)
  case atStart => exact ⟨0, 0, Nat.zero_le _, rfl, rfl, rfl⟩
  case round =>
   obtain ⟨k, nq, hk, rfl, HE, rfl⟩ := hrel
   by_cases hlt : k < xs.length
   ·have hlt2 : k < ys.length := by have := HL.out; omega
    obtain ⟨b1, o1, cp1, q1, hb1, hc1, cell1⟩ := h1.cellAt k hlt
    obtain ⟨b2, o2, cp2, q2, hb2, hc2, cell2⟩ := h2.cellAt k hlt2
    injection q1 with q1 _ q1'
    injection q2 with q2 _ q2'
    subst q1 q1' q2 q2'
    by_cases heq : xs[k] = ys[k]
    ·have t2 : (xs[k] != ys[k]) = false := by simpa using heq
     have HQ := Lib.hid heq
     clear heq
     go_wp2_with fail
     go_quiet (fail)
     go_wp2
     go_roundw
     case rel => exact ⟨k + 1, _, hlt, by go_num, take_eq_step hlt hlt2 HE.out HQ.out, rfl⟩
     case measure => simp [intOf]; omega
    ·have t2 : (xs[k] != ys[k]) = true := by simpa using heq
     have HQ := Lib.hid heq
     clear heq
     go_wp2_with fail
     go_quiet (fail)
     go_wp2
     go_ret
     refine ⟨ret_b ?_, _, World.drewN_drewN _ _ _⟩
     have : xs ≠ ys := fun e => HQ.out (by subst e; rfl)
     simp [this]
   ·go_wp2
    go_ret
    refine ⟨ret_b ?_, _, rfl⟩
    have h := HE.out
    have := HL.out
    rw [List.take_of_length_le (by omega), List.take_of_length_le (by omega)] at h
    simp [h]
 ·have t1 : ((xs.length : Int) != (ys.length : Int)) = true := by simp; omega
  have HL := Lib.hid hl
  clear hl
  go_enter Tryz.func33, Tryz.ntmps33
  go_wp2
  go_ret
  refine ⟨ret_b ?_, 0, rfl⟩
  have : xs ≠ ys := fun e => HL.out (by rw [e])
  simp [this]
end Go.Proofs.YtdhodaefgliphaaGreatDoor
namespace Go.Proofs.YtdhodaefgliphaaGreatDoor
open Go.RowKit
set_option maxHeartbeats 2000000 in
theorem indexGCore (l : List Core) (v : Value) (g : FuncId) (caps : Array Value) (B : Nat) (Inv : Nat → World → Prop) (Q : World → Prop) (w : World) (hn : l.length ≤ 1048576) (hin : Enters Tryz.prog g) (hr : Rd w B v (.list 9 l.length (l.flatMap Core.d)))
  (hinv : ∀ i W, Inv i W → Below B w W) (h0 : Inv 0 w)
  (hp : ∀ (i : Nat) (h : i < l.length) (W : World) (us : List Value), Inv i W → Rds W B us (l[i]'h).d → Calls Tryz.prog g (#[.agg us.toArray] ++ caps) W fun e w' => ∃ b : Bool, e = .returned (.bool b) ∧ (b = true → Q w') ∧ (b = false → Inv (i + 1) w')) :
  Calls Tryz.prog 79 #[v, .func (.func g) #[] caps] w fun e w' => ∃ z : Int, e = .returned (.int .i64 z) ∧ (0 ≤ z → Q w') ∧ (z < 0 → Inv l.length w') := by
 obtain ⟨a, cap, rfl⟩ := hr.slice_inv
 have HP := Lib.hid hp
 have HI := Lib.hid hinv
 clear hp hinv
 unfold Enters at hin
 go_enter Tryz.func79, Tryz.ntmps79
 go_wp2
 go_loopw [8] (fun u wr => ∃ k : Nat, k ≤ l.length ∧ u = .int .i64 k ∧ Hid (Inv k wr)) (fun u _ => l.length - (intOf u).toNat)
 case atStart => exact ⟨0, Nat.zero_le _, rfl, h0⟩
 case round =>
  obtain ⟨k, hk, rfl, HE⟩ := hrel
  have hbel := HI.out k wr HE.out
  by_cases hlt : k < l.length
  ·obtain ⟨b, off, cap', us, hv, hb, hc, hcell, hus⟩ := hr.elem Core.d_len rfl k hlt (by omega)
   injection hv with ha hn' hcap
   subst ha hcap
   have hlen : us.length = 9 := by rw [← hus.1]; exact Core.d_len _
   obtain ⟨u0, u1, u2, u3, u4, u5, u6, u7, u8, rfl⟩ : ∃ u0 u1 u2 u3 u4 u5 u6 u7 u8, us = [u0, u1, u2, u3, u4, u5, u6, u7, u8] := by
    match us, hlen with
    | [u0, u1, u2, u3, u4, u5, u6, u7, u8], _ => exact ⟨u0, u1, u2, u3, u4, u5, u6, u7, u8, rfl⟩
   have c0 := (hbel.cell (p := ⟨b, off + k * 9, none⟩) hb).trans (hcell 0 _ rfl)
   have c1 := (hbel.cell (p := ⟨b, off + k * 9 + 1, none⟩) hb).trans (hcell 1 _ rfl)
   have c2 := (hbel.cell (p := ⟨b, off + k * 9 + 2, none⟩) hb).trans (hcell 2 _ rfl)
   have c3 := (hbel.cell (p := ⟨b, off + k * 9 + 3, none⟩) hb).trans (hcell 3 _ rfl)
   have c4 := (hbel.cell (p := ⟨b, off + k * 9 + 4, none⟩) hb).trans (hcell 4 _ rfl)
   have c5 := (hbel.cell (p := ⟨b, off + k * 9 + 5, none⟩) hb).trans (hcell 5 _ rfl)
   have c6 := (hbel.cell (p := ⟨b, off + k * 9 + 6, none⟩) hb).trans (hcell 6 _ rfl)
   have c7 := (hbel.cell (p := ⟨b, off + k * 9 + 7, none⟩) hb).trans (hcell 7 _ rfl)
   have c8 := (hbel.cell (p := ⟨b, off + k * 9 + 8, none⟩) hb).trans (hcell 8 _ rfl)
   have HU := Lib.hid (hus.keep hbel)
   clear hcell hus
   go_wp2_with fail
   refine (HP.out k hlt wr _ HE.out HU.out).mono ?_
   rintro e w2 ⟨b2, rfl, hq, hi2⟩
   cases b2
   ·have HI2 := Lib.hid (hi2 rfl)
    clear hq hi2
    go_wp2
    go_roundw
    case rel => exact ⟨k + 1, hlt, by go_num, HI2.out⟩
    case measure => simp [intOf]; omega
   ·have HQ := Lib.hid (hq rfl)
    clear hq hi2
    go_wp2
    go_ret
    exact ⟨_, rfl, fun _ => HQ.out, fun h => by omega⟩
  ·go_wp2
   go_ret
   have : k = l.length := by omega
   subst this
   exact ⟨_, rfl, fun h => by omega, fun _ => HE.out⟩
theorem containsGCore (l : List Core) (v : Value) (g : FuncId) (caps : Array Value) (B : Nat) (Inv : Nat → World → Prop) (Q : World → Prop) (w : World) (hn : l.length ≤ 1048576) (hin : Enters Tryz.prog g) (hr : Rd w B v (.list 9 l.length (l.flatMap Core.d)))
  (hinv : ∀ i W, Inv i W → Below B w W) (h0 : Inv 0 w)
  (hp : ∀ (i : Nat) (h : i < l.length) (W : World) (us : List Value), Inv i W → Rds W B us (l[i]'h).d → Calls Tryz.prog g (#[.agg us.toArray] ++ caps) W fun e w' => ∃ b : Bool, e = .returned (.bool b) ∧ (b = true → Q w') ∧ (b = false → Inv (i + 1) w')) :
  Calls Tryz.prog 35 #[v, .func (.func g) #[] caps] w fun e w' => ∃ b : Bool, e = .returned (.bool b) ∧ (b = true → Q w') ∧ (b = false → Inv l.length w') := by
 obtain ⟨a, cap, rfl⟩ := hr.slice_inv
 have HC := Lib.hid (indexGCore l _ g caps B Inv Q w hn hin hr hinv h0 hp)
 clear hp hin hr hinv h0
 go_enter Tryz.func35, Tryz.ntmps35
 go_wp2_with fail
 refine HC.out.mono ?_
 rintro e w2 ⟨z, rfl, hq, hi2⟩
 have HQ := Lib.hid hq
 have HI2 := Lib.hid hi2
 clear hq hi2
 go_wp2
 go_ret
 refine ⟨_, rfl, fun h => HQ.out (by simpa using h), fun h => HI2.out (by simpa using h)⟩
set_option maxHeartbeats 2000000 in
theorem indexGCArm (l : List CArm) (v : Value) (g : FuncId) (caps : Array Value) (B : Nat) (Inv : Nat → World → Prop) (Q : World → Prop) (w : World) (hn : l.length ≤ 1048576) (hin : Enters Tryz.prog g) (hr : Rd w B v (.list 17 l.length (l.flatMap CArm.d)))
  (hinv : ∀ i W, Inv i W → Below B w W) (h0 : Inv 0 w)
  (hp : ∀ (i : Nat) (h : i < l.length) (W : World) (us : List Value), Inv i W → Rds W B us (l[i]'h).d → Calls Tryz.prog g (#[.agg us.toArray] ++ caps) W fun e w' => ∃ b : Bool, e = .returned (.bool b) ∧ (b = true → Q w') ∧ (b = false → Inv (i + 1) w')) :
  Calls Tryz.prog 80 #[v, .func (.func g) #[] caps] w fun e w' => ∃ z : Int, e = .returned (.int .i64 z) ∧ (0 ≤ z → Q w') ∧ (z < 0 → Inv l.length w') := by
 obtain ⟨a, cap, rfl⟩ := hr.slice_inv
 have HP := Lib.hid hp
 have HI := Lib.hid hinv
 clear hp hinv
 unfold Enters at hin
 go_enter Tryz.func80, Tryz.ntmps80
 go_wp2
 go_loopw [8] (fun u wr => ∃ k : Nat, k ≤ l.length ∧ u = .int .i64 k ∧ Hid (Inv k wr)) (fun u _ => l.length - (intOf u).toNat)
 case atStart => exact ⟨0, Nat.zero_le _, rfl, h0⟩
 case round =>
  obtain ⟨k, hk, rfl, HE⟩ := hrel
  have hbel := HI.out k wr HE.out
  by_cases hlt : k < l.length
  ·obtain ⟨b, off, cap', us, hv, hb, hc, hcell, hus⟩ := hr.elem CArm.d_len rfl k hlt (by omega)
   injection hv with ha hn' hcap
   subst ha hcap
   have hlen : us.length = 17 := by rw [← hus.1]; exact CArm.d_len _
   obtain ⟨u0, u1, u2, u3, u4, u5, u6, u7, u8, u9, u10, u11, u12, u13, u14, u15, u16, rfl⟩ : ∃ u0 u1 u2 u3 u4 u5 u6 u7 u8 u9 u10 u11 u12 u13 u14 u15 u16, us = [u0, u1, u2, u3, u4, u5, u6, u7, u8, u9, u10, u11, u12, u13, u14, u15, u16] := by
    match us, hlen with
    | [u0, u1, u2, u3, u4, u5, u6, u7, u8, u9, u10, u11, u12, u13, u14, u15, u16], _ => exact ⟨u0, u1, u2, u3, u4, u5, u6, u7, u8, u9, u10, u11, u12, u13, u14, u15, u16, rfl⟩
   have c0 := (hbel.cell (p := ⟨b, off + k * 17, none⟩) hb).trans (hcell 0 _ rfl)
   have c1 := (hbel.cell (p := ⟨b, off + k * 17 + 1, none⟩) hb).trans (hcell 1 _ rfl)
   have c2 := (hbel.cell (p := ⟨b, off + k * 17 + 2, none⟩) hb).trans (hcell 2 _ rfl)
   have c3 := (hbel.cell (p := ⟨b, off + k * 17 + 3, none⟩) hb).trans (hcell 3 _ rfl)
   have c4 := (hbel.cell (p := ⟨b, off + k * 17 + 4, none⟩) hb).trans (hcell 4 _ rfl)
   have c5 := (hbel.cell (p := ⟨b, off + k * 17 + 5, none⟩) hb).trans (hcell 5 _ rfl)
   have c6 := (hbel.cell (p := ⟨b, off + k * 17 + 6, none⟩) hb).trans (hcell 6 _ rfl)
   have c7 := (hbel.cell (p := ⟨b, off + k * 17 + 7, none⟩) hb).trans (hcell 7 _ rfl)
   have c8 := (hbel.cell (p := ⟨b, off + k * 17 + 8, none⟩) hb).trans (hcell 8 _ rfl)
   have c9 := (hbel.cell (p := ⟨b, off + k * 17 + 9, none⟩) hb).trans (hcell 9 _ rfl)
   have c10 := (hbel.cell (p := ⟨b, off + k * 17 + 10, none⟩) hb).trans (hcell 10 _ rfl)
   have c11 := (hbel.cell (p := ⟨b, off + k * 17 + 11, none⟩) hb).trans (hcell 11 _ rfl)
   have c12 := (hbel.cell (p := ⟨b, off + k * 17 + 12, none⟩) hb).trans (hcell 12 _ rfl)
   have c13 := (hbel.cell (p := ⟨b, off + k * 17 + 13, none⟩) hb).trans (hcell 13 _ rfl)
   have c14 := (hbel.cell (p := ⟨b, off + k * 17 + 14, none⟩) hb).trans (hcell 14 _ rfl)
   have c15 := (hbel.cell (p := ⟨b, off + k * 17 + 15, none⟩) hb).trans (hcell 15 _ rfl)
   have c16 := (hbel.cell (p := ⟨b, off + k * 17 + 16, none⟩) hb).trans (hcell 16 _ rfl)
   have HU := Lib.hid (hus.keep hbel)
   clear hcell hus
   go_wp2_with fail
   refine (HP.out k hlt wr _ HE.out HU.out).mono ?_
   rintro e w2 ⟨b2, rfl, hq, hi2⟩
   cases b2
   ·have HI2 := Lib.hid (hi2 rfl)
    clear hq hi2
    go_wp2
    go_roundw
    case rel => exact ⟨k + 1, hlt, by go_num, HI2.out⟩
    case measure => simp [intOf]; omega
   ·have HQ := Lib.hid (hq rfl)
    clear hq hi2
    go_wp2
    go_ret
    exact ⟨_, rfl, fun _ => HQ.out, fun h => by omega⟩
  ·go_wp2
   go_ret
   have : k = l.length := by omega
   subst this
   exact ⟨_, rfl, fun h => by omega, fun _ => HE.out⟩
theorem containsGCArm (l : List CArm) (v : Value) (g : FuncId) (caps : Array Value) (B : Nat) (Inv : Nat → World → Prop) (Q : World → Prop) (w : World) (hn : l.length ≤ 1048576) (hin : Enters Tryz.prog g) (hr : Rd w B v (.list 17 l.length (l.flatMap CArm.d)))
  (hinv : ∀ i W, Inv i W → Below B w W) (h0 : Inv 0 w)
  (hp : ∀ (i : Nat) (h : i < l.length) (W : World) (us : List Value), Inv i W → Rds W B us (l[i]'h).d → Calls Tryz.prog g (#[.agg us.toArray] ++ caps) W fun e w' => ∃ b : Bool, e = .returned (.bool b) ∧ (b = true → Q w') ∧ (b = false → Inv (i + 1) w')) :
  Calls Tryz.prog 43 #[v, .func (.func g) #[] caps] w fun e w' => ∃ b : Bool, e = .returned (.bool b) ∧ (b = true → Q w') ∧ (b = false → Inv l.length w') := by
 obtain ⟨a, cap, rfl⟩ := hr.slice_inv
 have HC := Lib.hid (indexGCArm l _ g caps B Inv Q w hn hin hr hinv h0 hp)
 clear hp hin hr hinv h0
 go_enter Tryz.func43, Tryz.ntmps43
 go_wp2_with fail
 refine HC.out.mono ?_
 rintro e w2 ⟨z, rfl, hq, hi2⟩
 have HQ := Lib.hid hq
 have HI2 := Lib.hid hi2
 clear hq hi2
 go_wp2
 go_ret
 refine ⟨_, rfl, fun h => HQ.out (by simpa using h), fun h => HI2.out (by simpa using h)⟩
end Go.Proofs.YtdhodaefgliphaaGreatDoor
