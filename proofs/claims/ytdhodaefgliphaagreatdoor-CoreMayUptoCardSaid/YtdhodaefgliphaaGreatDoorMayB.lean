/- What core.May and the document's May ask of a program, in plain words. -/
import Derived.Test.YtdhodaefgliphaaGreatDoorCor
import Derived.Test.YtdhodaefgliphaaGreatDoorDatP
import Derived.Test.YtdhodaefgliphaaGreatDoorIdg
import Derived.Deep.QuietTactic
import Derived.BigQuiet
import Derived.RegionTactic
import Derived.ChangeAlike
import Derived.Deep.Light
set_option linter.unusedVariables false
set_option linter.unusedSimpArgs false
namespace Go.Proofs.YtdhodaefgliphaaGreatDoor
open Go.RowKit
structure Bnd where
 been : List Bool
 here : List Bool
namespace Bnd
def bind (st : Bnd) (v : Int) : Option Bnd :=
 if 0 ≤ v ∧ v < (st.been.length : Int) ∧ st.been[v.toNat]? = some false then some ⟨st.been.set v.toNat true, st.here.set v.toNat true⟩ else none
def drop (st : Bnd) (v : Int) : Bnd := ⟨st.been, st.here.set v.toNat false⟩
def binds : Bnd → List Int → Option Bnd
 | st, [] => some st
 | st, v :: r => (st.bind v).bind fun s => s.binds r
def drops : Bnd → List Int → Bnd
 | st, [] => st
 | st, v :: r => (st.drop v).drops r
def fresh (n : Nat) : Bnd := ⟨List.replicate n false, List.replicate n false⟩
def Of (st : Bnd) (n : Nat) : Prop := st.been.length = n ∧ st.here.length = n
theorem bind_of {st st' : Bnd} {v : Int} {n : Nat} (h : st.Of n) (hb : st.bind v = some st') : st'.Of n ∧ 0 ≤ v ∧ v < (n : Int) := by
 unfold bind at hb
 split at hb
 ·rename_i hc
  injection hb with hb; subst hb
  obtain ⟨h1, h2⟩ := h
  exact ⟨⟨by simp [h1], by simp [h2]⟩, hc.1, by rw [← h1]; exact hc.2.1⟩
 ·cases hb
theorem drop_of {st : Bnd} {v : Int} {n : Nat} (h : st.Of n) : (st.drop v).Of n := ⟨h.1, by simp [drop, h.2]⟩
theorem binds_of {n : Nat} : ∀ (l : List Int) {st st' : Bnd}, st.Of n → st.binds l = some st' → st'.Of n ∧ ∀ v ∈ l, 0 ≤ v ∧ v < (n : Int)
 | [], st, st', h, hb => by
   simp only [binds] at hb; injection hb with hb; subst hb; exact ⟨h, fun v hv => by cases hv⟩
 | v :: r, st, st', h, hb => by
   simp only [binds, Option.bind_eq_some_iff] at hb
   obtain ⟨s1, h1, h2⟩ := hb
   obtain ⟨g1, g2⟩ := bind_of h h1
   obtain ⟨g3, g4⟩ := binds_of r g1 h2
   exact ⟨g3, fun u hu => by
    rcases List.mem_cons.1 hu with rfl | hu
    ·exact g2
    ·exact g4 u hu⟩
theorem binds_app : ∀ (l m : List Int) (st : Bnd), st.binds (l ++ m) = (st.binds l).bind fun s => s.binds m
 | [], m, st => rfl
 | v :: r, m, st => by
   simp only [List.cons_append, binds]
   cases st.bind v with
   | none => rfl
   | some s => exact binds_app r m s
theorem drops_of {n : Nat} : ∀ (l : List Int) {st : Bnd}, st.Of n → (st.drops l).Of n
 | [], _, h => h
 | v :: r, _, h => drops_of r (drop_of h)
end Bnd
def Sig.has (s : Sig) (con : Int) (n : Nat) : Bool := decide (0 ≤ con) && match s.cons[con.toNat]? with
 | some c => decide (c.fields.length = n)
 | none => false
mutual
def CPat.names (s : Sig) : CPat → Option (List Int)
 | .mk k n _ _ _ _ _ l =>
   if k = 1 then (if l.length = 0 then some [n] else none)
   else if k = 2 ∨ k = 3 ∨ k = 4 then (if l.length = 0 then some [] else none)
   else if k = 5 then (CPat.namesL s l).bind fun all => if s.has n l.length then some all else none
   else none
def CPat.namesL (s : Sig) : List CPat → Option (List Int)
 | [] => some []
 | t :: r => (t.names s).bind fun a => (CPat.namesL s r).bind fun b => some (a ++ b)
end
def takesZ (n : Int) : Int := if n < 1 ∨ 18 < n then 0 else if n = 7 then 3 else if n = 2 ∨ n = 4 ∨ (8 ≤ n ∧ n ≤ 10) then 1 else 2
def shapeC (s : Sig) (tops : Int) (k n : Int) (l : List Core) (na : Nat) (st : Bnd) : Bool :=
 if k = 1 then decide (l.length = 0 ∧ 0 ≤ n ∧ n < (st.here.length : Int) ∧ st.here[n.toNat]? = some true)
 else if k = 2 then decide (l.length = 0 ∧ 0 ≤ n ∧ n < tops)
 else if k = 3 ∨ k = 4 then decide (l.length = 0)
 else if k = 5 then decide (l.length = 1)
 else if k = 6 ∨ k = 7 then decide (l.length = 2)
 else if k = 8 then decide (l.length = 2) && (match l with | c :: _ => decide (c.kind = 5) | [] => false)
 else if k = 9 then s.has n l.length
 else if k = 10 then decide (l.length = 1 ∧ 0 < na)
 else if k = 11 then decide (0 < l.length ∧ takesZ n = (l.length : Int))
 else false
def bindAt (k : Int) : Option Nat := if k = 5 ∨ k = 8 then some 0 else if k = 7 then some 1 else none
mutual
def Core.may (s : Sig) (tops : Int) : Core → Bnd → Option Bnd
 | .mk k n _ _ _ _ _ l arms, st =>
   if shapeC s tops k n l arms.length st then
    (Core.kids s tops (bindAt k) n 0 l st).bind fun st1 =>
      if k = 10 then CArm.mays s tops arms st1 else some (if (bindAt k).isSome then st1.drop n else st1)
   else none
def Core.kids (s : Sig) (tops : Int) (b : Option Nat) (v : Int) : Nat → List Core → Bnd → Option Bnd
 | _, [], st => some st
 | i, t :: r, st => (if b = some i then st.bind v else some st).bind fun st1 => (t.may s tops st1).bind fun st2 => Core.kids s tops b v (i + 1) r st2
def CArm.may (s : Sig) (tops : Int) : CArm → Bnd → Option Bnd
 | .mk p e, st => (p.names s).bind fun l => (st.binds l).bind fun st1 => (e.may s tops st1).bind fun st2 => some (st2.drops l)
def CArm.mays (s : Sig) (tops : Int) : List CArm → Bnd → Option Bnd
 | [], st => some st
 | a :: r, st => (a.may s tops st).bind fun st1 => CArm.mays s tops r st1
end
theorem Core.may_eq (s : Sig) (tops : Int) (c : Core) (st : Bnd) : c.may s tops st = if shapeC s tops c.kind c.n c.l c.arms.length st then
   (Core.kids s tops (bindAt c.kind) c.n 0 c.l st).bind fun st1 =>
     if c.kind = 10 then CArm.mays s tops c.arms st1 else some (if (bindAt c.kind).isSome then st1.drop c.n else st1)
  else none := by cases c; rw [Core.may]; rfl
theorem CArm.may_eq (s : Sig) (tops : Int) (a : CArm) (st : Bnd) : a.may s tops st = (a.p.names s).bind fun l => (st.binds l).bind fun st1 => (a.e.may s tops st1).bind fun st2 => some (st2.drops l) := by
 cases a; rw [CArm.may]; rfl
def Prog.mayTops (s : Sig) : Nat → List Top → Bnd → Option Bnd
 | _, [], st => some st
 | i, t :: r, st => if t.rc = true ∧ t.e.kind ≠ 5 then none else (t.e.may s (if t.rc then (i : Int) + 1 else i) st).bind fun st1 => Prog.mayTops s (i + 1) r st1
def Prog.may (p : Prog) : Bool := p.sig.may && decide (p.tops.length ≤ 60 ∧ 0 ≤ p.vars ∧ p.vars ≤ 1048576) && (Prog.mayTops p.sig 0 p.tops (Bnd.fresh p.vars.toNat)).isSome
end Go.Proofs.YtdhodaefgliphaaGreatDoor
namespace Go.Proofs.YtdhodaefgliphaaGreatDoor
open Go.RowKit
structure Kept (X : Nat → Prop) (w w' : World) : Prop where
 os : w'.os = w.os
 tape : w'.tape = w.tape
 output : w'.output = w.output
 size : w.heap.size ≤ w'.heap.size
 block : ∀ k, k < w.heap.size → ¬ X k → w'.heap[k]? = w.heap[k]?
namespace Kept
variable {X : Nat → Prop} {u v w w' : World}
theorem refl (X : Nat → Prop) (w : World) : Kept X w w := ⟨rfl, rfl, rfl, Nat.le_refl _, fun _ _ _ => rfl⟩
theorem trans (h : Kept X u v) (k : Kept X v w) : Kept X u w :=
 ⟨k.os.trans h.os, k.tape.trans h.tape, k.output.trans h.output, Nat.le_trans h.size k.size, fun i hi hx => (k.block i (Nat.lt_of_lt_of_le hi h.size) hx).trans (h.block i hi hx)⟩
theorem of_below (k : Below v.heap.size v w) : Kept X v w := ⟨k.os, k.tape, k.output, k.size, fun i hi _ => k.block i hi⟩
theorem below (h : Kept X u v) (k : Below v.heap.size v w) : Kept X u w := h.trans (.of_below k)
theorem alloc (h : Kept X w v) (o : Obj) : Kept X w (v.alloc o) := h.below ((Below.refl _ _).alloc (Nat.le_refl _) o)
theorem drew (h : Kept X w v) : Kept X w v.drew := ⟨h.os, h.tape, h.output, h.size, h.block⟩
theorem drewN (h : Kept X w v) (n : Nat) : Kept X w (v.drewN n) := ⟨h.os, h.tape, h.output, h.size, h.block⟩
theorem setX (h : Kept X w v) {a : Addr} (ha : X a.block) (x : Value) : Kept X w (v.setCell a x) := by
 have hb : Below 0 v (v.setCell a x) := (Below.refl 0 v).setCell (p := a) (Nat.zero_le _) x
 refine ⟨hb.os.trans h.os, hb.tape.trans h.tape, hb.output.trans h.output, Nat.le_trans h.size hb.size, fun k hk hne => ?_⟩
 refine Eq.trans ?_ (h.block k hk hne)
 exact heap_setCell_other v a k x (fun e => hne (e ▸ ha))
theorem setNew (h : Kept X w v) {a : Addr} (ha : w.heap.size ≤ a.block) (x : Value) : Kept X w (v.setCell a x) := by
 have hb : Below w.heap.size v (v.setCell a x) := (Below.refl _ _).setCell ha _
 exact ⟨hb.os.trans h.os, hb.tape.trans h.tape, hb.output.trans h.output, Nat.le_trans h.size hb.size, fun k hk hne => (hb.block k hk).trans (h.block k hk hne)⟩
theorem low {B : Nat} (h : Kept X w v) (hB : ∀ k, X k → B ≤ k) (hw : B ≤ w.heap.size) : Below B w v := ⟨h.os, h.tape, h.output, h.size, fun k hk => h.block k (Nat.lt_of_lt_of_le hk hw) fun hx => Nat.lt_irrefl _ (Nat.lt_of_lt_of_le hk (hB k hx))⟩
theorem blk {c : Nat} {cs : Array Value} {t : TypeId} (h : Kept X w v) (k : Blk w c cs t) (hc : ¬ X c) : Blk v c cs t := (h.block c k.lt hc).trans k
end Kept
def bools (l : List Bool) : Array Value := (l.map Value.bool).toArray
theorem bools_get (l : List Bool) (i : Nat) (b : Bool) (h : l[i]? = some b) : (bools l)[i]? = some (.bool b) := by simp [bools, h]
theorem bools_set (l : List Bool) (i : Nat) (b : Bool) : (bools l).setIfInBounds i (.bool b) = bools (l.set i b) := by
 simp [bools, List.map_set]
structure Holds (w : World) (bb hb : Nat) (t : TypeId) (st : Bnd) : Prop where
 been : Blk w bb (bools st.been) t
 here : Blk w hb (bools st.here) t
theorem Holds.kept {X : Nat → Prop} {w w' : World} {bb hb : Nat} {t : TypeId} {st : Bnd} (h : Holds w bb hb t st) (k : Kept X w w') (h1 : ¬ X bb) (h2 : ¬ X hb) : Holds w' bb hb t st := ⟨k.blk h.been h1, k.blk h.here h2⟩
theorem Holds.below {w w' : World} {bb hb : Nat} {t : TypeId} {st : Bnd} (h : Holds w bb hb t st) (k : Below w.heap.size w w') : Holds w' bb hb t st := ⟨h.been.below k h.been.lt, h.here.below k h.here.lt⟩
theorem Holds.drew {w : World} {bb hb : Nat} {t : TypeId} {st : Bnd} (h : Holds w bb hb t st) : Holds w.drew bb hb t st := ⟨h.been, h.here⟩
theorem Holds.drewN {w : World} {bb hb : Nat} {t : TypeId} {st : Bnd} (h : Holds w bb hb t st) (k : Nat) : Holds (w.drewN k) bb hb t st := ⟨h.been, h.here⟩
end Go.Proofs.YtdhodaefgliphaaGreatDoor
namespace Go.Proofs.YtdhodaefgliphaaGreatDoor
open Go.RowKit
set_option maxHeartbeats 400000 in
theorem takes_any (n : Int) (w : World) :
  Calls Tryz.prog 42 #[.int .i64 n] w fun e w' => e = .returned (.int .i64 (takesZ n)) ∧ w = w' := by
 go_enter Tryz.func42, Tryz.ntmps42
 go_wp2
 all_goals (go_ret; refine ⟨ret_i ?_, rfl⟩; go_light; simp [takesZ] at *; omega)
abbrev lkC (dv cv tv : Value) (vars tops : Int) (bb hb n : Nat) : Array Value := #[dv, cv, tv, .int .i64 vars, .int .i64 tops, .slice (some ⟨bb, 0, none⟩) n n, .slice (some ⟨hb, 0, none⟩) n n]
theorem nat_beq (a b : Nat) : ((a : Int) == (b : Int)) = decide (a = b) := by
 by_cases h : a = b
 ·subst h; simp
 ·rw [decide_eq_false h]; simp; omega
theorem has_eq {s : Sig} {i m : Nat} (h : i < s.cons.length) : s.has (i : Int) m = decide (s.cons[i].fields.length = m) := by
 simp [Sig.has, h]
theorem has_no {s : Sig} {con : Int} {m : Nat} (h : ¬(0 ≤ con ∧ con < (s.cons.length : Int))) : s.has con m = false := by
 unfold Sig.has
 by_cases h0 : 0 ≤ con
 ·have : s.cons[con.toNat]? = none := by simp; omega
  rw [this]; simp
 ·simp [h0]
set_option maxHeartbeats 1000000 in
theorem has_any (s : Sig) (kb m : Nat) (con : Int) (dv cv tv : Value) (vars tops : Int) (bb hb n B : Nat) (w : World) (hk : Blk w kb (lkC dv cv tv vars tops bb hb n) 59)
  (hB : B ≤ w.heap.size) (hr : Rd w B cv (.list 4 s.cons.length (s.cons.flatMap Con.d))) (hm : m ≤ 1048576) (hl : s.cons.length ≤ 1048576) (hf : ∀ i (h : i < s.cons.length), s.cons[i].fields.length ≤ 1048576) :
  Calls Tryz.prog 41 #[.pointer (some ⟨kb, 0, none⟩), .int .i64 con, .int .i64 m] w fun e w' => e = .returned (.bool (s.has con m)) ∧ Below w.heap.size w w' := by
 have k1 : w.cell? ⟨kb, 1, none⟩ = some cv := (hk.cell 1).trans rfl
 by_cases h0 : 0 ≤ con
 ·obtain ⟨i, rfl⟩ := Int.eq_ofNat_of_zero_le h0
  by_cases hlt : i < s.cons.length
  ·obtain ⟨b, off, cap', us, hv, hb, hc, hcell, hus⟩ := hr.elem Con.d_len rfl i hlt (by omega)
   subst hv
   obtain ⟨v2, v3, rfl, g0, g1, g2, g3⟩ := Con.cells hus
   obtain ⟨a2, c2, rfl⟩ := g2.slice_inv
   have c2 := hcell 2 _ rfl
   have e1 : decide ((i : Int) < (s.cons.length : Int)) = true := decide_eq_true (by omega)
   have e0 : decide ((0 : Int) ≤ (i : Int)) = true := decide_eq_true (by omega)
   have HE := Lib.hid (has_eq (s := s) (m := m) hlt)
   have HF := hf i hlt
   obtain ⟨L, hL⟩ : ∃ L, (s.cons[i]).fields.length = L := ⟨_, rfl⟩
   rw [hL] at HE HF c2
   clear hcell hus g0 g1 g2 g3 hr h0 hf hL
   go_enter Tryz.func41, Tryz.ntmps41
   go_wp2
   all_goals
    go_ret
    refine ⟨ret_b ?_, Below.refl _ _⟩
    rw [HE.out]
    exact nat_beq L m
  ·have e1 : decide ((i : Int) < (s.cons.length : Int)) = false := decide_eq_false (by omega)
   have e0 : decide ((0 : Int) ≤ (i : Int)) = true := decide_eq_true (by omega)
   have HE := Lib.hid (has_no (s := s) (con := i) (m := m) (by omega))
   obtain ⟨a, cap, rfl⟩ := hr.slice_inv
   clear hr h0 hf
   go_enter Tryz.func41, Tryz.ntmps41
   go_wp2
   go_ret
   exact ⟨ret_b (by rw [HE.out]), Below.refl _ _⟩
 ·have e0 : decide ((0 : Int) ≤ con) = false := decide_eq_false (by omega)
  have HE := Lib.hid (has_no (s := s) (con := con) (m := m) (by omega))
  clear hr h0 hf
  go_enter Tryz.func41, Tryz.ntmps41
  go_wp2
  go_ret
  exact ⟨ret_b (by rw [HE.out]), Below.refl _ _⟩
def Xs (bb hb : Nat) : Nat → Prop := fun k => k = bb ∨ k = hb
theorem Xs.not {bb hb k : Nat} (h1 : k ≠ bb) (h2 : k ≠ hb) : ¬ Xs bb hb k := by
 rintro (h | h)
 ·exact h1 h
 ·exact h2 h
def Ans (o : Option Bnd) (bb hb n : Nat) (w : World) (e : Ending) (w' : World) : Prop :=
 e = .returned (.bool o.isSome) ∧ Kept (Xs bb hb) w w' ∧ ∃ st2 : Bnd, Holds w' bb hb 4 st2 ∧ st2.Of n ∧ ∀ s, o = some s → st2 = s
theorem Ans.mk {o : Option Bnd} {bb hb n : Nat} {w w' : World} {b : Bool} (st2 : Bnd) (hb' : b = o.isSome) (hk : Kept (Xs bb hb) w w') (hh : Holds w' bb hb 4 st2) (ho : st2.Of n) (hs : ∀ s, o = some s → st2 = s) : Ans o bb hb n w (.returned (.bool b)) w' :=
 ⟨by rw [hb'], hk, st2, hh, ho, hs⟩
theorem Ans.kept {o : Option Bnd} {bb hb n : Nat} {w W w' : World} {e : Ending} (k : Kept (Xs bb hb) w W) (h : Ans o bb hb n W e w') : Ans o bb hb n w e w' := ⟨h.1, k.trans h.2.1, h.2.2⟩
def IntsAt (w : World) (bb hb : Nat) (vv : Value) (vs : List Int) : Prop :=
 (vs = [] ∧ ∃ a c, vv = .slice a 0 c) ∨ ∃ b off cap, vv = .slice (some ⟨b, off, none⟩) vs.length cap ∧ ¬ Xs bb hb b ∧ b < w.heap.size ∧ vs.length ≤ cap ∧ ∀ k (h : k < vs.length), w.cell? ⟨b, off + k, none⟩ = some (.int .i64 vs[k])
theorem cell_of_heap {w w' : World} {b o : Nat} (h : w'.heap[b]? = w.heap[b]?) : w'.cell? ⟨b, o, none⟩ = w.cell? ⟨b, o, none⟩ := by
 unfold World.cell?
 rw [h]
theorem IntsAt.kept {w w' : World} {bb hb : Nat} {vv : Value} {vs : List Int} (h : IntsAt w bb hb vv vs) (k : Kept (Xs bb hb) w w') : IntsAt w' bb hb vv vs := by
 rcases h with h | ⟨b, off, cap, rfl, h1, h2, h3, h4⟩
 ·exact .inl h
 ·exact .inr ⟨b, off, cap, rfl, h1, Nat.lt_of_lt_of_le h2 k.size, h3, fun j hj => (cell_of_heap (k.block b h2 h1)).trans (h4 j hj)⟩
theorem IntsAt.slice {w : World} {bb hb : Nat} {vv : Value} {vs : List Int} (h : IntsAt w bb hb vv vs) : ∃ a cap, vv = .slice a vs.length cap := by
 rcases h with ⟨rfl, a, c, rfl⟩ | ⟨b, off, cap, rfl, _⟩
 ·exact ⟨a, c, rfl⟩
 ·exact ⟨_, cap, rfl⟩
theorem IntsAt.at {w : World} {bb hb : Nat} {vv : Value} {vs : List Int} (h : IntsAt w bb hb vv vs) (k : Nat) (hk : k < vs.length) :
  ∃ b off cap, vv = .slice (some ⟨b, off, none⟩) vs.length cap ∧ ¬ Xs bb hb b ∧ b < w.heap.size ∧ vs.length ≤ cap ∧ w.cell? ⟨b, off + k, none⟩ = some (.int .i64 vs[k]) := by
 rcases h with ⟨rfl, _⟩ | ⟨b, off, cap, rfl, h1, h2, h3, h4⟩
 ·simp at hk
 ·exact ⟨b, off, cap, rfl, h1, h2, h3, h4 k hk⟩
theorem Holds.setBoth {w : World} {bb hb : Nat} {t : TypeId} {st : Bnd} (h : Holds w bb hb t st) (hne : bb ≠ hb) (i j : Nat) (x y : Bool) :
  Holds ((w.setCell ⟨bb, i, none⟩ (.bool x)).setCell ⟨hb, j, none⟩ (.bool y)) bb hb t ⟨st.been.set i x, st.here.set j y⟩ := by
 refine ⟨?_, ?_⟩
 ·have := (h.been.set i (.bool x)).setOther (a := ⟨hb, j, none⟩) hne (.bool y)
  rwa [bools_set] at this
 ·have := (h.here.setOther (a := ⟨bb, i, none⟩) (Ne.symm hne) (.bool x)).set j (.bool y)
  rwa [bools_set] at this
theorem Holds.setBoth' {w : World} {bb hb : Nat} {t : TypeId} {st : Bnd} (h : Holds w bb hb t st) (hne : bb ≠ hb) (i j : Nat) (x y : Bool) :
  Holds ((w.setCell ⟨hb, j, none⟩ (.bool y)).setCell ⟨bb, i, none⟩ (.bool x)) bb hb t ⟨st.been.set i x, st.here.set j y⟩ := by
 refine ⟨?_, ?_⟩
 ·have := (h.been.setOther (a := ⟨hb, j, none⟩) hne (.bool y)).set i (.bool x)
  rwa [bools_set] at this
 ·have := (h.here.set j (.bool y)).setOther (a := ⟨bb, i, none⟩) (Ne.symm hne) (.bool x)
  rwa [bools_set] at this
theorem Holds.setHere {w : World} {bb hb : Nat} {t : TypeId} {st : Bnd} (h : Holds w bb hb t st) (hne : bb ≠ hb) (j : Nat) (y : Bool) :
  Holds (w.setCell ⟨hb, j, none⟩ (.bool y)) bb hb t ⟨st.been, st.here.set j y⟩ := by
 refine ⟨h.been.setOther (a := ⟨hb, j, none⟩) hne (.bool y), ?_⟩
 have := h.here.set j (.bool y)
 rwa [bools_set] at this
namespace Bnd
theorem binds_take {vs : List Int} {k : Nat} (hk : k < vs.length) {st s1 : Bnd} (h : st.binds (vs.take k) = some s1) : st.binds (vs.take (k + 1)) = s1.bind vs[k] := by
 rw [List.take_succ_eq_append_getElem hk, binds_app, h]
 show (s1.bind vs[k]).bind _ = _
 cases s1.bind vs[k] <;> rfl
theorem binds_stop {vs : List Int} {k : Nat} (hk : k < vs.length) {st s1 : Bnd} (h : st.binds (vs.take k) = some s1) (hn : s1.bind vs[k] = none) : st.binds vs = none := by
 rw [← List.take_append_drop (k + 1) vs, binds_app, binds_take hk h, hn]; rfl
theorem drops_app : ∀ (l m : List Int) (st : Bnd), st.drops (l ++ m) = (st.drops l).drops m
 | [], _, _ => rfl
 | v :: r, m, st => drops_app r m _
theorem drops_take {vs : List Int} {k : Nat} (hk : k < vs.length) (st : Bnd) : st.drops (vs.take (k + 1)) = (st.drops (vs.take k)).drop vs[k] := by
 rw [List.take_succ_eq_append_getElem hk, drops_app]; rfl
theorem bind_no {st : Bnd} {v : Int} (h : ¬(0 ≤ v ∧ v < (st.been.length : Int) ∧ st.been[v.toNat]? = some false)) : st.bind v = none := by
 unfold bind; rw [if_neg h]
theorem bind_yes {st : Bnd} {i : Nat} (h1 : i < st.been.length) (h2 : st.been[i]? = some false) : st.bind (i : Int) = some ⟨st.been.set i true, st.here.set i true⟩ := by
 unfold bind; rw [if_pos ⟨by omega, by omega, by simpa using h2⟩]; rfl
end Bnd
end Go.Proofs.YtdhodaefgliphaaGreatDoor
namespace Go.Proofs.YtdhodaefgliphaaGreatDoor
open Go.RowKit
set_option maxHeartbeats 4000000 in
theorem with_any (vs : List Int) (vv : Value) (g : FuncId) (caps : Array Value) (kb bb hb n : Nat) (dv cv tv : Value) (vars tops : Int) (st : Bnd) (f : Bnd → Option Bnd) (w : World)
  (hbt : bb ≠ hb) (hkb : kb ≠ bb) (hkh : kb ≠ hb) (hvs : IntsAt w bb hb vv vs) (hk : Blk w kb (lkC dv cv tv vars tops bb hb n) 59)
  (hh : Holds w bb hb 4 st) (ho : st.Of n) (hn : n ≤ 1048576) (hl : vs.length ≤ 1048576) (hin : Enters Tryz.prog g)
  (hf : ∀ W st1, Kept (Xs bb hb) w W → Holds W bb hb 4 st1 → st1.Of n → Calls Tryz.prog g caps W (Ans (f st1) bb hb n W)) :
  Calls Tryz.prog 37 #[.pointer (some ⟨kb, 0, none⟩), vv, .func (.func g) #[] caps] w (Ans (((st.binds vs).bind f).map fun s => s.drops vs) bb hb n w) := by
 have HF := Lib.hid hf
 have HV := Lib.hid hvs
 have HO := Lib.hid ho
 have hX : ¬ Xs bb hb kb := Xs.not hkb hkh
 obtain ⟨a, cap, rfl⟩ := hvs.slice
 unfold Enters at hin
 clear hf hvs ho
 go_enter Tryz.func37, Tryz.ntmps37
 go_wp2
 go_loopw [14] (fun u wr => ∃ (k : Nat) (s1 : Bnd), k ≤ vs.length ∧ u = .int .i64 k ∧ Hid (st.binds (vs.take k) = some s1) ∧ Hid (s1.Of n) ∧ Holds wr bb hb 4 s1 ∧ Kept (Xs bb hb) w wr) (fun u _ => vs.length - (intOf u).toNat)
 case atStart => exact ⟨0, st, Nat.zero_le _, rfl, rfl, HO, hh, Kept.refl _ _⟩
 case round =>
  obtain ⟨k, s1, hkl, rfl, HB, HS, hh1, hkp⟩ := hrel
  have k5 : wr.cell? ⟨kb, 5, none⟩ = some (.slice (some ⟨bb, 0, none⟩) n n) := ((hkp.blk hk hX).cell 5).trans rfl
  have k6 : wr.cell? ⟨kb, 6, none⟩ = some (.slice (some ⟨hb, 0, none⟩) n n) := ((hkp.blk hk hX).cell 6).trans rfl
  by_cases hlt : k < vs.length
  ·obtain ⟨b, off, cap', hv, hbX, hblt, hc, hcell⟩ := HV.out.at k hlt
   injection hv with ha hn' hcap
   subst ha hcap
   have c0 : wr.cell? ⟨b, off + k, none⟩ = some (.int .i64 vs[k]) := (cell_of_heap (hkp.block b hblt hbX)).trans hcell
   have hget : vs[k]? = some vs[k] := List.getElem?_eq_getElem hlt
   have hstop := Bnd.binds_stop hlt HB.out
   have hgo := Bnd.binds_take hlt HB.out
   obtain ⟨v, hvv⟩ : ∃ v, vs[k] = v := ⟨_, rfl⟩
   rw [hvv] at c0 hstop hgo
   have HSTOP := Lib.hid hstop
   have HGO := Lib.hid hgo
   clear hcell hget hvv hstop hgo
   by_cases h0 : 0 ≤ v
   ·obtain ⟨i, rfl⟩ := Int.eq_ofNat_of_zero_le h0
    have e0 : decide ((i : Int) < 0) = false := decide_eq_false (by omega)
    by_cases hin' : i < n
    ·have e1 : decide ((n : Int) ≤ (i : Int)) = false := decide_eq_false (by omega)
     obtain ⟨q, hq⟩ : ∃ q, s1.been[i]? = some q := ⟨_, List.getElem?_eq_getElem (by rw [HS.out.1]; exact hin')⟩
     have q5 : wr.cell? ⟨bb, i, none⟩ = some (.bool q) := (hh1.been.cell i).trans (bools_get _ _ _ hq)
     obtain ⟨q', hq'⟩ : ∃ q, s1.here[i]? = some q := ⟨_, List.getElem?_eq_getElem (by rw [HS.out.2]; exact hin')⟩
     have q6 : wr.cell? ⟨hb, i, none⟩ = some (.bool q') := (hh1.here.cell i).trans (bools_get _ _ _ hq')
     have f5 : wr.frozen? ⟨bb, i, none⟩ = false := hh1.been.free i
     have f6 : wr.frozen? ⟨hb, i, none⟩ = false := hh1.here.free i
     have HQ := Lib.hid hq
     have HH := Lib.hid hh1
     clear hq hq' hh1
     cases q
     ·go_wp2_with fail
      go_region
      all_goals
       go_wp2
       go_roundw
       case rel =>
        have hby := Bnd.bind_yes (st := s1) (i := i) (by rw [HS.out.1]; exact hin') HQ.out
        refine ⟨k + 1, _, hlt, by go_num, Lib.hid (HGO.out.trans hby), Lib.hid (Bnd.bind_of HS.out hby).1, ?_, ?_⟩
        ·first
          | exact (HH.out.setBoth hbt i i true true).drew
          | exact (HH.out.setBoth' hbt i i true true).drew
        ·first
          | exact ((hkp.setX (a := ⟨bb, i, none⟩) (.inl rfl) _).setX (a := ⟨hb, i, none⟩) (.inr rfl) _).drew
          | exact ((hkp.setX (a := ⟨hb, i, none⟩) (.inr rfl) _).setX (a := ⟨bb, i, none⟩) (.inl rfl) _).drew
       case measure => simp [intOf]; omega
     ·go_wp2
      go_ret
      have := HSTOP.out (Bnd.bind_no (by rintro ⟨_, _, h⟩; rw [show ((i : Int).toNat) = i by simp, HQ.out] at h; cases h))
      exact Ans.mk s1 (by rw [this]; rfl) hkp HH.out HS.out (fun s hs => by rw [this] at hs; cases hs)
    ·have e1 : decide ((n : Int) ≤ (i : Int)) = true := decide_eq_true (by omega)
     have HH := Lib.hid hh1
     clear hh1
     go_wp2
     go_ret
     have := HSTOP.out (Bnd.bind_no (by rintro ⟨_, h, _⟩; rw [HS.out.1] at h; omega))
     exact Ans.mk s1 (by rw [this]; rfl) hkp HH.out HS.out (fun s hs => by rw [this] at hs; cases hs)
   ·have e0 : decide (v < 0) = true := decide_eq_true (by omega)
    have HH := Lib.hid hh1
    clear hh1
    go_wp2
    go_ret
    have := HSTOP.out (Bnd.bind_no (by rintro ⟨h, _, _⟩; omega))
    exact Ans.mk s1 (by rw [this]; rfl) hkp HH.out HS.out (fun s hs => by rw [this] at hs; cases hs)
  ·have hall : st.binds vs = some s1 := by have := HB.out; rwa [List.take_of_length_le (by omega)] at this
   have HALL := Lib.hid hall
   have HIN := Lib.hid (Bnd.binds_of vs HO.out hall).2
   have HH := Lib.hid hh1
   clear hh1 hall
   go_wp2_with fail
   refine (HF.out _ s1 hkp HH.out HS.out).mono ?_
   rintro e w2 ⟨rfl, hk2, s2, hh2, ho2, hs2⟩
   have HS2 := Lib.hid hs2
   have HO2 := Lib.hid ho2
   have hkp2 := hkp.trans hk2
   obtain ⟨ok, hok⟩ : ∃ ok, (f s1).isSome = ok := ⟨_, rfl⟩
   have HOK := Lib.hid hok
   rw [hok]
   clear hs2 ho2 hok
   go_wp2
   go_loopw [55] (fun u wr => ∃ k : Nat, k ≤ vs.length ∧ u = .int .i64 k ∧ Holds wr bb hb 4 (s2.drops (vs.take k)) ∧ Kept (Xs bb hb) w wr) (fun u _ => vs.length - (intOf u).toNat)
   case atStart => exact ⟨0, Nat.zero_le _, rfl, hh2, hkp2⟩
   case round =>
    obtain ⟨k, hkl, rfl, hh3, hkp3⟩ := hrel
    have HH3 := Lib.hid hh3
    clear hh3
    have k6 : wr.cell? ⟨kb, 6, none⟩ = some (.slice (some ⟨hb, 0, none⟩) n n) := ((hkp3.blk hk hX).cell 6).trans rfl
    by_cases hlt : k < vs.length
    ·obtain ⟨b, off, cap', hv, hbX, hblt, hc, hcell⟩ := HV.out.at k hlt
     injection hv with ha hn' hcap
     subst ha hcap
     have c0 : wr.cell? ⟨b, off + k, none⟩ = some (.int .i64 vs[k]) := (cell_of_heap (hkp3.block b hblt hbX)).trans hcell
     have hin' := HIN.out vs[k] (List.getElem_mem hlt)
     have HD := Lib.hid (Bnd.drops_take hlt s2)
     obtain ⟨v, hvv⟩ : ∃ v, vs[k] = v := ⟨_, rfl⟩
     rw [hvv] at c0 hin' HD
     clear hcell hvv
     obtain ⟨i, rfl⟩ := Int.eq_ofNat_of_zero_le hin'.1
     have hin2 : i < n := by omega
     have hof := Bnd.drops_of (vs.take k) HO2.out
     obtain ⟨q', hq'⟩ : ∃ q, (s2.drops (vs.take k)).here[i]? = some q := ⟨_, List.getElem?_eq_getElem (by rw [hof.2]; exact hin2)⟩
     have q6 : wr.cell? ⟨hb, i, none⟩ = some (.bool q') := (HH3.out.here.cell i).trans (bools_get _ _ _ hq')
     have f6 : wr.frozen? ⟨hb, i, none⟩ = false := HH3.out.here.free i
     clear hq' hof
     go_wp2
     go_roundw
     case rel =>
      refine ⟨k + 1, hlt, by go_num, ?_, ?_⟩
      ·rw [HD.out]
       exact HH3.out.setHere hbt i false
      ·exact hkp3.setX (a := ⟨hb, i, none⟩) (.inr rfl) _
     case measure => simp [intOf]; omega
    ·have HD : vs.take k = vs := List.take_of_length_le (by omega)
     have HD := Lib.hid HD
     go_wp2
     go_ret
     have hh4 := HH3.out
     rw [HD.out] at hh4
     refine Ans.mk (s2.drops vs) ?_ hkp3 hh4 (Bnd.drops_of vs HO2.out) ?_
     ·rw [HALL.out]
      show ok = ((f s1).map fun s => s.drops vs).isSome
      rw [Option.isSome_map, HOK.out]
     ·intro s hs
      rw [HALL.out] at hs
      have hs : ((f s1).map fun s => s.drops vs) = some s := hs
      rw [Option.map_eq_some_iff] at hs
      obtain ⟨x, hx, rfl⟩ := hs
      rw [HS2.out x hx]
end Go.Proofs.YtdhodaefgliphaaGreatDoor
