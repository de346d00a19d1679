/- Contracts of the document's answer for layer 14: plain lemmas of Bound.core. -/
import Derived.Test.YtdhodaefgliphaaGreatDoorRefC
import Derived.Deep.CutBlock
set_option linter.unusedVariables false
set_option linter.unusedSimpArgs false
namespace Go.Proofs.YtdhodaefgliphaaGreatDoor
open Go.RowKit
namespace Core
theorem kids_app (s : Sig) (tops : Int) (b : Option Nat) (v : Int) : ∀ (i : Nat) (l m : List Core) (st : Bnd), Core.kids s tops b v i (l ++ m) st = (Core.kids s tops b v i l st).bind fun s1 => Core.kids s tops b v (i + l.length) m s1
 | i, [], m, st => by simp [Core.kids]
 | i, t :: r, m, st => by
   simp only [List.cons_append, Core.kids]
   cases (if b = some i then st.bind v else some st) with
   | none => rfl
   | some s1 =>
     simp only [Option.bind_some]
     cases t.may s tops s1 with
     | none => rfl
     | some s2 =>
       simp only [Option.bind_some]
       rw [kids_app s tops b v (i + 1) r m s2, List.length_cons, show i + 1 + r.length = i + (r.length + 1) by omega]
theorem kids_take (s : Sig) (tops : Int) (b : Option Nat) (v : Int) {l : List Core} {k : Nat} (hk : k < l.length) {st s1 : Bnd} (h : Core.kids s tops b v 0 (l.take k) st = some s1) :
  Core.kids s tops b v 0 (l.take (k + 1)) st = (if b = some k then s1.bind v else some s1).bind fun s2 => l[k].may s tops s2 := by
 rw [List.take_succ_eq_append_getElem hk, kids_app, h]
 have hlen : (l.take k).length = k := by rw [List.length_take]; omega
 simp only [Option.bind_some, Core.kids, hlen, Nat.zero_add]
 cases (if b = some k then s1.bind v else some s1) with
 | none => rfl
 | some s2 =>
   simp only [Option.bind_some]
   cases l[k].may s tops s2 <;> rfl
theorem kids_stop (s : Sig) (tops : Int) (b : Option Nat) (v : Int) {l : List Core} {k : Nat} {st : Bnd} (h : Core.kids s tops b v 0 (l.take k) st = none) : Core.kids s tops b v 0 l st = none := by
 rw [← List.take_append_drop k l, kids_app, h]; rfl
end Core
theorem arm_bnd (s : Sig) (tops : Int) (a : CArm) (st : Bnd) : a.may s tops st = (a.p.bnd s st).bind fun x => (a.e.may s tops x.2).map fun s2 => s2.drops x.1 := by
 rw [CArm.may_eq]
 unfold CPat.bnd
 cases a.p.names s with
 | none => rfl
 | some l =>
   simp only [Option.bind_some]
   cases st.binds l with
   | none => rfl
   | some s1 =>
     simp only [Option.bind_some, Option.map_some]
     cases a.e.may s tops s1 <;> rfl
theorem int_beq (a b : Int) : (a == b) = decide (a = b) := by
 by_cases h : a = b
 ·subst h; simp
 ·rw [decide_eq_false h]; simpa using h
theorem shape8' {s : Sig} {tops z : Int} {l : List Core} {na : Nat} {st : Bnd} (h : l.length ≠ 2) : shapeC s tops 8 z l na st = false := by
 simp [shapeC, h]
end Go.Proofs.YtdhodaefgliphaaGreatDoor
namespace Go.Proofs.YtdhodaefgliphaaGreatDoor
open Go.RowKit
structure KInv (s : Sig) (tops pk : Int) (l : List Core) (pn : Int) (st : Bnd) (bb hb n : Nat) (box : Array Value) (t : TypeId) (q : Bool) (o : Option Bnd) (w wr : World) (k : Nat) (ok : Bool) : Prop where
 kept : Kept (Xs bb hb) w wr
 box : Blk wr w.heap.size box t
 got : (ok = true ∧ q = true ∧ ∃ s1, Core.kids s tops (bindAt pk) pn 0 (l.take k) st = some s1 ∧ Holds wr bb hb 4 s1 ∧ s1.Of n ∧ ∀ j, bindAt pk = some j → j < k → 0 ≤ pn ∧ pn < (n : Int)) ∨ (ok = false ∧ o = none ∧ ∃ s1, Holds wr bb hb 4 s1 ∧ s1.Of n)
structure RDInv (s : Sig) (tops pk : Int) (l : List Core) (pn : Int) (st : Bnd) (bb hb n : Nat) (box : Array Value) (t : TypeId) (q : Bool) (o : Option Bnd) (bf : Bool) (w wr : World) (ok : Bool) : Prop where
 kept : Kept (Xs bb hb) w wr
 box : Blk wr w.heap.size box t
 got : (ok = true ∧ q = true ∧ ∃ s1, Core.kids s tops (bindAt pk) pn 0 l st = some s1 ∧ Holds wr bb hb 4 (if bf then s1.drop pn else s1) ∧ s1.Of n) ∨ (ok = false ∧ o = none ∧ ∃ s1, Holds wr bb hb 4 s1 ∧ s1.Of n)
theorem RDInv.drewN {s : Sig} {tops pk : Int} {l : List Core} {pn : Int} {st : Bnd} {bb hb n : Nat} {box : Array Value} {t : TypeId} {q : Bool} {o : Option Bnd} {bf : Bool} {w wr : World} {ok : Bool} (h : RDInv s tops pk l pn st bb hb n box t q o bf w wr ok) {m : Nat} : RDInv s tops pk l pn st bb hb n box t q o bf w (wr.drewN m) ok :=
 ⟨h.kept.drewN m, h.box, by
   rcases h.got with ⟨h1, h2, s1, g1, g2, g3⟩ | ⟨h1, h2, s1, g2, g3⟩
   ·exact .inl ⟨h1, h2, s1, g1, g2.drewN m, g3⟩
   ·exact .inr ⟨h1, h2, s1, g2.drewN m, g3⟩⟩
theorem RDInv.ans {s : Sig} {tops pk : Int} {l : List Core} {arms : List CArm} {pn : Int} {st : Bnd} {bb hb n : Nat} {box : Array Value} {t : TypeId} {q : Bool} {o : Option Bnd} {bf : Bool} {w wr : World} {ok : Bool} (h : RDInv s tops pk l pn st bb hb n box t q o bf w wr ok)
  (hm : o = if q = true then (Core.kids s tops (bindAt pk) pn 0 l st).bind fun st1 => if pk = 10 then CArm.mays s tops arms st1 else some (if bf = true then st1.drop pn else st1) else none) (k10 : pk ≠ 10) (hbf : (bindAt pk).isSome = bf) :
  Ans o bb hb n w (.returned (.bool ok)) wr := by
 rcases h.got with ⟨rfl, rfl, s1, g1, g2, g3⟩ | ⟨rfl, rfl, s1, g2, g3⟩
 ·rw [if_pos rfl, g1] at hm
  simp only [Option.bind_some, if_neg k10] at hm
  subst hm
  refine ⟨rfl, h.kept, _, g2, ?_, fun x hx => by injection hx⟩
  cases bf
  ·exact g3
  ·exact Bnd.drop_of g3
 ·exact ⟨rfl, h.kept, s1, g2, g3, fun x hx => by cases hx⟩
structure AInv (s : Sig) (tops pk : Int) (l : List Core) (arms : List CArm) (pn : Int) (st : Bnd) (bb hb n : Nat) (box : Array Value) (t : TypeId) (q : Bool) (o : Option Bnd) (w wr : World) (i : Nat) (ok : Bool) : Prop where
 kept : Kept (Xs bb hb) w wr
 box : Blk wr w.heap.size box t
 got : (ok = true ∧ q = true ∧ ∃ s0 s1, Core.kids s tops (bindAt pk) pn 0 l st = some s0 ∧ CArm.mays s tops (arms.take i) s0 = some s1 ∧ Holds wr bb hb 4 s1 ∧ s1.Of n) ∨ (ok = false ∧ o = none ∧ ∃ s1, Holds wr bb hb 4 s1 ∧ s1.Of n)
theorem bnd_len {s : Sig} {p : CPat} {st s2 : Bnd} {l : List Int} (h : p.bnd s st = some (l, s2)) : l.length ≤ p.size := by
 unfold CPat.bnd at h
 rw [Option.bind_eq_some_iff] at h
 obtain ⟨a, h1, h2⟩ := h
 rw [Option.map_eq_some_iff] at h2
 obtain ⟨x, h3, h4⟩ := h2
 injection h4 with h5 h6
 subst h5 h6
 exact CPat.names_len s p _ h1
theorem bnd_binds {s : Sig} {p : CPat} {st s2 : Bnd} {l : List Int} (h : p.bnd s st = some (l, s2)) : st.binds l = some s2 := by
 unfold CPat.bnd at h
 rw [Option.bind_eq_some_iff] at h
 obtain ⟨a, h1, h2⟩ := h
 rw [Option.map_eq_some_iff] at h2
 obtain ⟨x, h3, h4⟩ := h2
 injection h4 with h5 h6
 subst h5 h6
 exact h3
structure JInv (bb hb pb : Nat) (box : Array Value) (t : TypeId) (st : Bnd) (nm : List Int) (V : Value) (w wq : World) : Prop where
 kept : Kept (Xs bb hb) w wq
 box : Blk wq w.heap.size box t
 holds : Holds wq bb hb 4 st
 row : RowAt wq pb V nm
theorem JInv.drewN {bb hb pb : Nat} {box : Array Value} {t : TypeId} {st : Bnd} {nm : List Int} {V : Value} {w wq : World} (h : JInv bb hb pb box t st nm V w wq) {m : Nat} : JInv bb hb pb box t st nm V w (wq.drewN m) :=
 ⟨h.kept.drewN m, h.box, h.holds.drewN m, h.row.below (Below.drewN (Below.refl _ _) m)⟩
set_option maxRecDepth 100000 in
set_option maxHeartbeats 4000000 in
theorem rcore_any (s : Sig) (tops : Int) (kb bb hb n B : Nat) (dv cv tv : Value) (vars : Int) (hl : s.cons.length ≤ 1048576) (hf : ∀ i (h : i < s.cons.length), s.cons[i].fields.length ≤ 1048576)
  (hB1 : B ≤ bb) (hB2 : B ≤ hb) (hbt : bb ≠ hb) (hkb : kb ≠ bb) (hkh : kb ≠ hb) (hn : n ≤ 1048576) :
  ∀ (N : Nat) (c : Core) (us : List Value) (st : Bnd) (w : World), c.size ≤ N → c.size ≤ 1048576 → Blk w kb (bndC dv cv tv vars tops bb hb n) 64 → B ≤ w.heap.size → Rd w B cv (.list 4 s.cons.length (s.cons.flatMap Con.d)) → Rds w B us c.d →
    Holds w bb hb 4 st → st.Of n → Calls Tryz.prog 16 #[.pointer (some ⟨kb, 0, none⟩), .agg us.toArray] w (Ans (c.may s tops st) bb hb n w) := by
 intro N
 induction N with
 | zero => intro c us st w h; have := c.size_pos; omega
 | succ N ih =>
   intro c us st w hN hsz hk hB hr hus hh ho
   have IH := Lib.hid ih
   have HM := Lib.hid (Core.may_eq s tops c st)
   have HH := Lib.hid hh
   have HO := Lib.hid ho
   have HC := Lib.hid hr
   have HK := Lib.hid hk
   have hbl := hh.been.lt
   have hhl := hh.here.lt
   have hkl := hk.lt
   have hse := c.size_eq
   have hlen : c.l.length ≤ 1048576 := by have := Core.sizes_len c.l; omega
   have hlna : c.arms.length ≤ 1048576 := by have := CArm.sizes_len c.arms; omega
   obtain ⟨v7, v8, rfl, g7, g8, -⟩ := Core.cells hus
   have G7 := Lib.hid g7
   have G8 := Lib.hid g8
   obtain ⟨a7, c7, rfl⟩ := g7.slice_inv
   obtain ⟨a8, c8, rfl⟩ := g8.slice_inv
   clear ih hus g7 g8 hh ho hr hk
   obtain ⟨pk, hpk⟩ : ∃ x, c.kind = x := ⟨_, rfl⟩
   obtain ⟨pn, hpn⟩ : ∃ x, c.n = x := ⟨_, rfl⟩
   obtain ⟨l, hpl⟩ : ∃ x, c.l = x := ⟨_, rfl⟩
   obtain ⟨arms, hpa⟩ : ∃ x, c.arms = x := ⟨_, rfl⟩
   rw [hpk, hpn, hpl, hpa] at HM
   rw [hpl, hpa] at hse
   rw [hpl] at G7 hlen
   rw [hpa] at G8 hlna
   simp only [hpk, hpn, hpl, hpa]
   clear hpk hpn hpl hpa
   have HSE := Lib.hid hse
   obtain ⟨o, hoo⟩ : ∃ o, c.may s tops st = o := ⟨_, rfl⟩
   rw [hoo] at HM ⊢
   clear hse hoo
   go_enter Tryz.func16, Tryz.ntmps16
   go_upto_block 0 with fail
   obtain ⟨box, hbox⟩ : ∃ b : Array Value, #[.int .u8 pk, .int .i64 pn, .int .i64 c.i, .string c.s, .int .i64 c.at_, .int .i64 c.line, .int .i64 c.col, .slice a7 l.length c7, .slice a8 arms.length c8] = b := ⟨_, rfl⟩
   have b0 : box[0]? = some (.int .u8 pk) := by rw [← hbox]; rfl
   have b1 : box[1]? = some (.int .i64 pn) := by rw [← hbox]; rfl
   have b7 : box[7]? = some (.slice a7 l.length c7) := by rw [← hbox]; rfl
   have b8 : box[8]? = some (.slice a8 arms.length c8) := by rw [← hbox]; rfl
   obtain ⟨W0, hW0⟩ : ∃ W, w.alloc (.cells box 38) = W := ⟨_, rfl⟩
   have hb0 : Below w.heap.size w W0 := by rw [← hW0]; exact (Below.refl _ _).alloc (Nat.le_refl _) _
   have hs0 : Hid (W0.heap.size = w.heap.size + 1) := Lib.hid (by rw [← hW0]; simp)
   have hx0 : Blk W0 w.heap.size box 38 := by rw [← hW0]; exact Blk.new _ _ _ _ rfl
   rw [hbox, hW0]
   clear hbox hW0
   have hbB : Below B w W0 := hb0.mono hB
   have HBX := Lib.hid (⟨b0, b1, b7, b8⟩ : box[0]? = some (.int .u8 pk) ∧ box[1]? = some (.int .i64 pn) ∧ box[7]? = some (.slice a7 l.length c7) ∧ box[8]? = some (.slice a8 arms.length c8))
   clear b0 b1 b7 b8
   go_cut [5, 6] (fun v q wx => v = .int .i64 l.length ∧ q = .bool (shapeC s tops pk pn l arms.length st) ∧ Below W0.heap.size W0 wx)
   case first => as_aux_lemma =>
    have x0 : W0.cell? ⟨w.heap.size, 0, none⟩ = some (.int .u8 pk) := (hx0.cell 0).trans HBX.out.1
    have x1 : W0.cell? ⟨w.heap.size, 1, none⟩ = some (.int .i64 pn) := (hx0.cell 1).trans HBX.out.2.1
    have x7 : W0.cell? ⟨w.heap.size, 7, none⟩ = some (.slice a7 l.length c7) := (hx0.cell 7).trans HBX.out.2.2.1
    have x8 : W0.cell? ⟨w.heap.size, 8, none⟩ = some (.slice a8 arms.length c8) := (hx0.cell 8).trans HBX.out.2.2.2
    have hkW := HK.out.below hb0 hkl
    have y1 : W0.cell? ⟨kb, 1, none⟩ = some cv := (hkW.cell 1).trans rfl
    have y4 : W0.cell? ⟨kb, 4, none⟩ = some (.int .i64 tops) := (hkW.cell 4).trans rfl
    have y5 : W0.cell? ⟨kb, 5, none⟩ = some (.slice (some ⟨hb, 0, none⟩) n n) := (hkW.cell 5).trans rfl
    have HHr := Lib.hid (HH.out.below hb0)
    clear hkW hx0
    go_wp2_with fail
    ·as_aux_lemma =>
     obtain rfl : pk = 1 := by simpa using ‹(pk == 1) = true›
     by_cases h0 : l.length = 0
     ·have e0 : ((l.length : Int) == 0) = true := by simp [h0]
      by_cases n0 : 0 ≤ pn
      ·obtain ⟨i, rfl⟩ := Int.eq_ofNat_of_zero_le n0
       have e1 : decide ((0 : Int) ≤ (i : Int)) = true := decide_eq_true (by omega)
       by_cases hi : i < n
       ·have e2 : decide ((i : Int) < (n : Int)) = true := decide_eq_true (by omega)
        obtain ⟨q, hq⟩ : ∃ q, st.here[i]? = some q := ⟨_, List.getElem?_eq_getElem (by rw [HO.out.2]; exact hi)⟩
        have z1 : W0.cell? ⟨hb, i, none⟩ = some (.bool q) := (HHr.out.here.cell i).trans (bools_get _ _ _ hq)
        have i1 : (i : Int) < (n : Int) := by omega
        have i2 : (0 : Int) ≤ (i : Int) := by omega
        have hsh : shapeC s tops 1 (i : Int) l arms.length st = q := by
         have hnn := HO.out.2
         unfold shapeC
         rw [if_pos rfl, Int.toNat_natCast, hq]
         cases q
         ·exact decide_eq_false (by rintro ⟨_, _, _, h⟩; cases h)
         ·exact decide_eq_true ⟨h0, by omega, by omega, rfl⟩
        have HSH := Lib.hid hsh
        clear hsh hq h0
        go_quiet (fail)
        go_wp2_with fail
        go_meet
        exact ⟨by first | rfl | exact congrArg (Value.int .i64) (by omega), by rw [HSH.out], by (repeat (with_reducible first | exact Below.refl _ _ | refine Below.setCell ?_ ?_ _ | refine Below.alloc ?_ ?_ _ | refine Below.drewN ?_ _ | refine Below.drew ?_)) <;> first | omega | (simp; omega) | (simp; done)⟩
       ·have e2 : decide ((i : Int) < (n : Int)) = false := decide_eq_false (by omega)
        have hno : shapeC s tops 1 (i : Int) l arms.length st = false := by
         have hnn := HO.out.2
         unfold shapeC
         rw [if_pos rfl]
         exact decide_eq_false (by rintro ⟨_, _, h, _⟩; omega)
        have HSH := Lib.hid hno
        clear h0 hno
        go_quiet (fail)
        go_wp2_with fail
        go_meet
        exact ⟨by first | rfl | exact congrArg (Value.int .i64) (by omega), by rw [HSH.out], by (repeat (with_reducible first | exact Below.refl _ _ | refine Below.setCell ?_ ?_ _ | refine Below.alloc ?_ ?_ _ | refine Below.drewN ?_ _ | refine Below.drew ?_)) <;> first | omega | (simp; omega) | (simp; done)⟩
      ·have e1 : decide ((0 : Int) ≤ pn) = false := decide_eq_false (by omega)
       have HSH := Lib.hid (show shapeC s tops 1 pn l arms.length st = false from (by simp [shapeC, n0]))
       try clear h0
       try clear hno
       go_quiet (fail)
       go_wp2_with fail
       go_meet
       exact ⟨by first | rfl | exact congrArg (Value.int .i64) (by omega), by rw [HSH.out], by (repeat (with_reducible first | exact Below.refl _ _ | refine Below.setCell ?_ ?_ _ | refine Below.alloc ?_ ?_ _ | refine Below.drewN ?_ _ | refine Below.drew ?_)) <;> first | omega | (simp; omega) | (simp; done)⟩
     ·have e0 : ((l.length : Int) == 0) = false := by rw [int_beq, decide_eq_false]; omega
      have HSH := Lib.hid (show shapeC s tops 1 pn l arms.length st = false from (by simp [shapeC, h0]))
      try clear h0
      try clear hno
      go_quiet (fail)
      go_wp2_with fail
      go_meet
      exact ⟨by first | rfl | exact congrArg (Value.int .i64) (by omega), by rw [HSH.out], by (repeat (with_reducible first | exact Below.refl _ _ | refine Below.setCell ?_ ?_ _ | refine Below.alloc ?_ ?_ _ | refine Below.drewN ?_ _ | refine Below.drew ?_)) <;> first | omega | (simp; omega) | (simp; done)⟩
    ·as_aux_lemma =>
     obtain rfl : pk = 2 := by simpa using ‹(pk == 2) = true›
     by_cases h0 : l.length = 0
     ·have e0 : ((l.length : Int) == 0) = true := by simp [h0]
      by_cases n0 : 0 ≤ pn
      ·have e1 : decide ((0 : Int) ≤ pn) = true := decide_eq_true n0
       by_cases hi : pn < tops
       ·have e2 : decide (pn < tops) = true := decide_eq_true hi
        have HSH := Lib.hid (show shapeC s tops 2 pn l arms.length st = true from (by simp [shapeC, h0, n0, hi]))
        try clear h0
        try clear hno
        go_quiet (fail)
        go_wp2_with fail
        go_meet
        exact ⟨by first | rfl | exact congrArg (Value.int .i64) (by omega), by rw [HSH.out], by (repeat (with_reducible first | exact Below.refl _ _ | refine Below.setCell ?_ ?_ _ | refine Below.alloc ?_ ?_ _ | refine Below.drewN ?_ _ | refine Below.drew ?_)) <;> first | omega | (simp; omega) | (simp; done)⟩
       ·have e2 : decide (pn < tops) = false := decide_eq_false hi
        have HSH := Lib.hid (show shapeC s tops 2 pn l arms.length st = false from (by simp [shapeC, hi]))
        try clear h0
        try clear hno
        go_quiet (fail)
        go_wp2_with fail
        go_meet
        exact ⟨by first | rfl | exact congrArg (Value.int .i64) (by omega), by rw [HSH.out], by (repeat (with_reducible first | exact Below.refl _ _ | refine Below.setCell ?_ ?_ _ | refine Below.alloc ?_ ?_ _ | refine Below.drewN ?_ _ | refine Below.drew ?_)) <;> first | omega | (simp; omega) | (simp; done)⟩
      ·have e1 : decide ((0 : Int) ≤ pn) = false := decide_eq_false n0
       have HSH := Lib.hid (show shapeC s tops 2 pn l arms.length st = false from (by simp [shapeC, n0]))
       try clear h0
       try clear hno
       go_quiet (fail)
       go_wp2_with fail
       go_meet
       exact ⟨by first | rfl | exact congrArg (Value.int .i64) (by omega), by rw [HSH.out], by (repeat (with_reducible first | exact Below.refl _ _ | refine Below.setCell ?_ ?_ _ | refine Below.alloc ?_ ?_ _ | refine Below.drewN ?_ _ | refine Below.drew ?_)) <;> first | omega | (simp; omega) | (simp; done)⟩
     ·have e0 : ((l.length : Int) == 0) = false := by rw [int_beq, decide_eq_false]; omega
      have HSH := Lib.hid (show shapeC s tops 2 pn l arms.length st = false from (by simp [shapeC, h0]))
      try clear h0
      try clear hno
      go_quiet (fail)
      go_wp2_with fail
      go_meet
      exact ⟨by first | rfl | exact congrArg (Value.int .i64) (by omega), by rw [HSH.out], by (repeat (with_reducible first | exact Below.refl _ _ | refine Below.setCell ?_ ?_ _ | refine Below.alloc ?_ ?_ _ | refine Below.drewN ?_ _ | refine Below.drew ?_)) <;> first | omega | (simp; omega) | (simp; done)⟩
    ·
     as_aux_lemma =>
      obtain rfl : pk = 3 := by simpa using ‹(pk == 3) = true›
      go_meet
      exact ⟨by first | rfl | exact congrArg (Value.int .i64) (by omega), congrArg Value.bool ((nat_beq l.length 0).trans (show decide (l.length = 0) = shapeC s tops 3 pn l arms.length st from by simp [shapeC])), by (repeat (with_reducible first | exact Below.refl _ _ | refine Below.setCell ?_ ?_ _ | refine Below.alloc ?_ ?_ _ | refine Below.drewN ?_ _ | refine Below.drew ?_)) <;> first | omega | (simp; omega) | (simp; done)⟩
    ·
     as_aux_lemma =>
      obtain rfl : pk = 4 := by simpa using ‹(pk == 4) = true›
      go_meet
      exact ⟨by first | rfl | exact congrArg (Value.int .i64) (by omega), congrArg Value.bool ((nat_beq l.length 0).trans (show decide (l.length = 0) = shapeC s tops 4 pn l arms.length st from by simp [shapeC])), by (repeat (with_reducible first | exact Below.refl _ _ | refine Below.setCell ?_ ?_ _ | refine Below.alloc ?_ ?_ _ | refine Below.drewN ?_ _ | refine Below.drew ?_)) <;> first | omega | (simp; omega) | (simp; done)⟩
    ·
     as_aux_lemma =>
      obtain rfl : pk = 5 := by simpa using ‹(pk == 5) = true›
      go_meet
      exact ⟨by first | rfl | exact congrArg (Value.int .i64) (by omega), congrArg Value.bool ((nat_beq l.length 1).trans (show decide (l.length = 1) = shapeC s tops 5 pn l arms.length st from by simp [shapeC])), by (repeat (with_reducible first | exact Below.refl _ _ | refine Below.setCell ?_ ?_ _ | refine Below.alloc ?_ ?_ _ | refine Below.drewN ?_ _ | refine Below.drew ?_)) <;> first | omega | (simp; omega) | (simp; done)⟩
    ·
     as_aux_lemma =>
      obtain rfl : pk = 6 := by simpa using ‹(pk == 6) = true›
      go_meet
      exact ⟨by first | rfl | exact congrArg (Value.int .i64) (by omega), congrArg Value.bool ((nat_beq l.length 2).trans (show decide (l.length = 2) = shapeC s tops 6 pn l arms.length st from by simp [shapeC])), by (repeat (with_reducible first | exact Below.refl _ _ | refine Below.setCell ?_ ?_ _ | refine Below.alloc ?_ ?_ _ | refine Below.drewN ?_ _ | refine Below.drew ?_)) <;> first | omega | (simp; omega) | (simp; done)⟩
    ·
     as_aux_lemma =>
      obtain rfl : pk = 7 := by simpa using ‹(pk == 7) = true›
      go_meet
      exact ⟨by first | rfl | exact congrArg (Value.int .i64) (by omega), congrArg Value.bool ((nat_beq l.length 2).trans (show decide (l.length = 2) = shapeC s tops 7 pn l arms.length st from by simp [shapeC])), by (repeat (with_reducible first | exact Below.refl _ _ | refine Below.setCell ?_ ?_ _ | refine Below.alloc ?_ ?_ _ | refine Below.drewN ?_ _ | refine Below.drew ?_)) <;> first | omega | (simp; omega) | (simp; done)⟩
    ·as_aux_lemma =>
     obtain rfl : pk = 8 := by simpa using ‹(pk == 8) = true›
     have h0 : l.length = 2 := by omega
     obtain ⟨b, off, cap', us, hv, hblt, hc, hcell, hus⟩ := G7.out.elem Core.d_len rfl 0 (by omega) (by omega)
     injection hv with ha hn' hcap
     subst ha hcap
     obtain ⟨w7, w8, rfl, -, -, -⟩ := Core.cells hus
     have z0 := (hbB.cell (p := ⟨b, off + 0 * 9, none⟩) hblt).trans (hcell 0 _ rfl)
     simp only [Nat.zero_mul, Nat.add_zero] at z0
     have hsh : shapeC s tops 8 pn l arms.length st = ((l[0]'(by omega)).kind == 5) := by rw [shape8 h0 (by omega), int_beq]
     obtain ⟨K, hK⟩ : ∃ K, (l[0]'(by omega)).kind = K := ⟨_, rfl⟩
     rw [hK] at hsh z0
     have HSH := Lib.hid hsh
     have i1 : (0 : Int) < (l.length : Int) := by omega
     clear hsh hcell hus hK h0
     go_wp2_with fail
     go_meet
     exact ⟨by first | rfl | exact congrArg (Value.int .i64) (by omega), by rw [HSH.out], by (repeat (with_reducible first | exact Below.refl _ _ | refine Below.setCell ?_ ?_ _ | refine Below.alloc ?_ ?_ _ | refine Below.drewN ?_ _ | refine Below.drew ?_)) <;> first | omega | (simp; omega) | (simp; done)⟩
    ·as_aux_lemma =>
     obtain rfl : pk = 8 := by simpa using ‹(pk == 8) = true›
     go_meet
     exact ⟨by first | rfl | exact congrArg (Value.int .i64) (by omega), by rw [shape8' (by omega)], by (repeat (with_reducible first | exact Below.refl _ _ | refine Below.setCell ?_ ?_ _ | refine Below.alloc ?_ ?_ _ | refine Below.drewN ?_ _ | refine Below.drew ?_)) <;> first | omega | (simp; omega) | (simp; done)⟩
    ·as_aux_lemma =>
     obtain rfl : pk = 9 := by simpa using ‹(pk == 9) = true›
     by_cases n0 : 0 ≤ pn
     ·obtain ⟨i, rfl⟩ := Int.eq_ofNat_of_zero_le n0
      have e0 : decide ((0 : Int) ≤ (i : Int)) = true := decide_eq_true (by omega)
      by_cases hlt : i < s.cons.length
      ·obtain ⟨b, off, cap', us, hv, hbl', hc, hcell, hus⟩ := HC.out.elem Con.d_len rfl i hlt (by omega)
       subst hv
       obtain ⟨v2, v3, rfl, g0, g1, g2, g3⟩ := Con.cells hus
       obtain ⟨a2, c2, rfl⟩ := g2.slice_inv
       have c2 := (hbB.cell (p := ⟨b, off + i * 4 + 2, none⟩) hbl').trans (hcell 2 _ rfl)
       have e1 : decide ((i : Int) < (s.cons.length : Int)) = true := decide_eq_true (by omega)
       have hhe := has_eq (s := s) (m := l.length) hlt
       obtain ⟨L, hL⟩ : ∃ L, (s.cons[i]).fields.length = L := ⟨_, rfl⟩
       rw [hL] at hhe c2
       have i1 : (i : Int) < (s.cons.length : Int) := by omega
       have i0 : (0 : Int) ≤ (i : Int) := by omega
       have HSH := Lib.hid (show shapeC s tops 9 (i : Int) l arms.length st = ((L : Int) == (l.length : Int)) from (show shapeC s tops 9 (i : Int) l arms.length st = s.has i l.length by simp [shapeC]).trans (hhe.trans (nat_beq L l.length).symm))
       clear hcell hus g0 g1 g2 g3 hL hhe
       go_quiet (fail)
       go_wp2_with fail
       go_meet
       exact ⟨by first | rfl | exact congrArg (Value.int .i64) (by omega), by rw [HSH.out], by (repeat (with_reducible first | exact Below.refl _ _ | refine Below.setCell ?_ ?_ _ | refine Below.alloc ?_ ?_ _ | refine Below.drewN ?_ _ | refine Below.drew ?_)) <;> first | omega | (simp; omega) | (simp; done)⟩
      ·have e1 : decide ((i : Int) < (s.cons.length : Int)) = false := decide_eq_false (by omega)
       have hno := has_no (s := s) (con := i) (m := l.length) (by omega)
       obtain ⟨a, cap, rfl⟩ := HC.out.slice_inv
       have HSH := Lib.hid (show shapeC s tops 9 (i : Int) l arms.length st = false from (show shapeC s tops 9 (i : Int) l arms.length st = s.has i l.length by simp [shapeC]).trans hno)
       clear hno
       go_quiet (fail)
       go_wp2_with fail
       go_meet
       exact ⟨by first | rfl | exact congrArg (Value.int .i64) (by omega), by rw [HSH.out], by (repeat (with_reducible first | exact Below.refl _ _ | refine Below.setCell ?_ ?_ _ | refine Below.alloc ?_ ?_ _ | refine Below.drewN ?_ _ | refine Below.drew ?_)) <;> first | omega | (simp; omega) | (simp; done)⟩
     ·have e0 : decide ((0 : Int) ≤ pn) = false := decide_eq_false (by omega)
      have hno := Lib.hid (has_no (s := s) (con := pn) (m := l.length) (by omega))
      have HSH := Lib.hid (show shapeC s tops 9 pn l arms.length st = false from ((show shapeC s tops 9 pn l arms.length st = s.has pn l.length by simp [shapeC]).trans hno.out))
      try clear h0
      try clear hno
      go_quiet (fail)
      go_wp2_with fail
      go_meet
      exact ⟨by first | rfl | exact congrArg (Value.int .i64) (by omega), by rw [HSH.out], by (repeat (with_reducible first | exact Below.refl _ _ | refine Below.setCell ?_ ?_ _ | refine Below.alloc ?_ ?_ _ | refine Below.drewN ?_ _ | refine Below.drew ?_)) <;> first | omega | (simp; omega) | (simp; done)⟩
    ·as_aux_lemma =>
     obtain rfl : pk = 10 := by simpa using ‹(pk == 10) = true›
     have h0 : l.length = 1 := by omega
     have hsh : shapeC s tops 10 pn l arms.length st = decide (0 < arms.length) := by simp [shapeC, h0]
     go_meet
     refine ⟨by first | rfl | exact congrArg (Value.int .i64) (by omega), ?_, by (repeat (with_reducible first | exact Below.refl _ _ | refine Below.setCell ?_ ?_ _ | refine Below.alloc ?_ ?_ _ | refine Below.drewN ?_ _ | refine Below.drew ?_)) <;> first | omega | (simp; omega) | (simp; done)⟩
     rw [hsh]
    ·as_aux_lemma =>
     obtain rfl : pk = 10 := by simpa using ‹(pk == 10) = true›
     have h0 : ¬ l.length = 1 := by omega
     have hsh : shapeC s tops 10 pn l arms.length st = false := by simp [shapeC, h0]
     go_meet
     exact ⟨by first | rfl | exact congrArg (Value.int .i64) (by omega), by rw [hsh], by (repeat (with_reducible first | exact Below.refl _ _ | refine Below.setCell ?_ ?_ _ | refine Below.alloc ?_ ?_ _ | refine Below.drewN ?_ _ | refine Below.drew ?_)) <;> first | omega | (simp; omega) | (simp; done)⟩
    ·as_aux_lemma =>
     obtain rfl : pk = 11 := by simpa using ‹(pk == 11) = true›
     have h0 : 0 < l.length := by omega
     have HSH := Lib.hid (show shapeC s tops 11 pn l arms.length st = (takesZ pn == (l.length : Int)) by rw [int_beq]; simp [shapeC, h0])
     refine (rtakes_any pn _).mono ?_
     rintro e w2 ⟨rfl, hb2⟩
     obtain ⟨T, hT⟩ : ∃ T, takesZ pn = T := ⟨_, rfl⟩
     rw [hT] at HSH ⊢
     clear hT
     go_wp2_with fail
     go_meet
     exact ⟨by first | rfl | exact congrArg (Value.int .i64) (by omega), by rw [HSH.out], by (repeat (with_reducible first | exact hb2 | refine Below.setCell ?_ ?_ _ | refine Below.alloc ?_ ?_ _ | refine Below.drewN ?_ _ | refine Below.drew ?_)) <;> first | omega | (simp; omega) | (simp; done)⟩
    ·as_aux_lemma =>
     obtain rfl : pk = 11 := by simpa using ‹(pk == 11) = true›
     have h0 : ¬ 0 < l.length := by omega
     have hsh : shapeC s tops 11 pn l arms.length st = false := by simp [shapeC, h0]
     go_meet
     exact ⟨by first | rfl | exact congrArg (Value.int .i64) (by omega), by rw [hsh], by (repeat (with_reducible first | exact Below.refl _ _ | refine Below.setCell ?_ ?_ _ | refine Below.alloc ?_ ?_ _ | refine Below.drewN ?_ _ | refine Below.drew ?_)) <;> first | omega | (simp; omega) | (simp; done)⟩
    ·as_aux_lemma =>
     have k1 : pk ≠ 1 := by simpa using ‹(pk == 1) = false›
     have k2 : pk ≠ 2 := by simpa using ‹(pk == 2) = false›
     have k3 : pk ≠ 3 := by simpa using ‹(pk == 3) = false›
     have k4 : pk ≠ 4 := by simpa using ‹(pk == 4) = false›
     have k5 : pk ≠ 5 := by simpa using ‹(pk == 5) = false›
     have k6 : pk ≠ 6 := by simpa using ‹(pk == 6) = false›
     have k7 : pk ≠ 7 := by simpa using ‹(pk == 7) = false›
     have k8 : pk ≠ 8 := by simpa using ‹(pk == 8) = false›
     have k9 : pk ≠ 9 := by simpa using ‹(pk == 9) = false›
     have k10 : pk ≠ 10 := by simpa using ‹(pk == 10) = false›
     have k11 : pk ≠ 11 := by simpa using ‹(pk == 11) = false›
     have hsh : shapeC s tops pk pn l arms.length st = false := by simp [shapeC, k1, k2, k3, k4, k5, k6, k7, k8, k9, k10, k11]
     go_meet
     exact ⟨by first | rfl | exact congrArg (Value.int .i64) (by omega), by rw [hsh], by (repeat (with_reducible first | exact Below.refl _ _ | refine Below.setCell ?_ ?_ _ | refine Below.alloc ?_ ?_ _ | refine Below.drewN ?_ _ | refine Below.drew ?_)) <;> first | omega | (simp; omega) | (simp; done)⟩
   case rest => as_aux_lemma =>
    obtain ⟨rfl, rfl, hbc⟩ := hcut
    obtain ⟨q, hq⟩ : ∃ q, shapeC s tops pk pn l arms.length st = q := ⟨_, rfl⟩
    obtain ⟨bf, hbf⟩ : ∃ b, (bindAt pk).isSome = b := ⟨_, rfl⟩
    rw [hq, hbf] at HM
    rw [hq]
    have HQ := Lib.hid hq
    have HBF := Lib.hid hbf
    have hbw : Below w.heap.size w wc := hb0.trans (hbc.mono (by have := hs0.out; omega))
    have hxc : Blk wc w.heap.size box 38 := hx0.below hbc hx0.lt
    have hst : KInv s tops pk l pn st bb hb n box 38 q o w wc 0 q := by
     refine ⟨Kept.of_below hbw, hxc, ?_⟩
     cases q
     ·exact .inr ⟨rfl, by rw [HM.out]; rfl, st, HH.out.below hbw, HO.out⟩
     ·exact .inl ⟨rfl, rfl, st, rfl, HH.out.below hbw, HO.out, fun j _ h => absurd h (Nat.not_lt_zero _)⟩
    have HST := Lib.hid hst
    have x0 : wc.cell? ⟨w.heap.size, 0, none⟩ = some (.int .u8 pk) := (hxc.cell 0).trans HBX.out.1
    clear hst hbw hxc hbc hx0 hb0 hs0 hbB hq hbf HH
    go_upto_region 24 with fail
    go_cut [7] (fun v wx => v = .bool bf ∧ wx = wc)
    case first => as_aux_lemma =>
     by_cases k5 : pk = 5
     ·have t5 : (pk == 5) = true := by simpa using k5
      have HB := Lib.hid (show bf = true by rw [← HBF.out, k5]; rfl)
      clear k5
      go_wp2_with fail
      go_meet
      exact ⟨by rw [HB.out], rfl⟩
     have t5 : (pk == 5) = false := by simpa using k5
     by_cases k7 : pk = 7
     ·have t7 : (pk == 7) = true := by simpa using k7
      have HB := Lib.hid (show bf = true by rw [← HBF.out, k7]; rfl)
      clear k7 k5
      go_wp2_with fail
      go_meet
      exact ⟨by rw [HB.out], rfl⟩
     have t7 : (pk == 7) = false := by simpa using k7
     by_cases k8 : pk = 8
     ·have t8 : (pk == 8) = true := by simpa using k8
      have HB := Lib.hid (show bf = true by rw [← HBF.out, k8]; rfl)
      clear k8 k7 k5
      go_wp2_with fail
      go_meet
      exact ⟨by rw [HB.out], rfl⟩
     have t8 : (pk == 8) = false := by simpa using k8
     have HB := Lib.hid (show bf = false by rw [← HBF.out]; simp [bindAt, k5, k7, k8])
     clear k8 k7 k5
     go_wp2_with fail
     go_meet
     exact ⟨by rw [HB.out], rfl⟩
    case rest => as_aux_lemma =>
     obtain ⟨rfl, rfl⟩ := hcut
     clear x0
     go_upto_block 1 with fail
     go_cut [6] (fun v wx => ∃ ok : Bool, v = .bool ok ∧ Hid (KInv s tops pk l pn st bb hb n box 38 q o w wx l.length ok))
     case first => as_aux_lemma =>
      go_wp2_with fail
      go_loopw [8, 6] (fun u u6 wr => ∃ (k : Nat) (ok : Bool), k ≤ l.length ∧ u = .int .i64 k ∧ u6 = .bool ok ∧ Hid (KInv s tops pk l pn st bb hb n box 38 q o w wr k ok)) (fun u _ _ => l.length - (intOf u).toNat)
      case atStart => exact ⟨0, q, Nat.zero_le _, rfl, rfl, HST⟩
      case round =>
       obtain ⟨k, ok, hkl2, rfl, rfl, HI⟩ := hrel
       obtain ⟨hbel, hbx, hgot⟩ := HI.out
       have x0 : wr.cell? ⟨w.heap.size, 0, none⟩ = some (.int .u8 pk) := (hbx.cell 0).trans HBX.out.1
       rcases hgot with ⟨rfl, rfl, s1, hA, hh1, ho1, hbd⟩ | ⟨rfl, hO, s1, hh1, ho1⟩
       ·by_cases hlt : k < l.length
        ·have e1 : decide ((k : Int) < (l.length : Int)) = true := decide_eq_true (by omega)
         obtain ⟨b, off, cap', us, hv, hblt, hc, hcell, hus⟩ := G7.out.elem Core.d_len rfl k hlt (by omega)
         injection hv with ha hn' hcap
         subst ha hcap
         have hsub := Core.sizes_get l k hlt
         have hIH := fun (W : World) (s2 : Bnd) (hW : Kept (Xs bb hb) w W) (hh : Holds W bb hb 4 s2) (ho : s2.Of n) =>
          IH.out l[k] us s2 W (by have := HSE.out; omega) (by have := HSE.out; omega) (hW.blk HK.out (Xs.not hkb hkh)) (Nat.le_trans hB hW.size) (HC.out.keep (hW.low (by rintro x (rfl | rfl) <;> assumption) hB)) (hus.keep (hW.low (by rintro x (rfl | rfl) <;> assumption) hB)) hh ho
         have hcl : ∀ W, Kept (Xs bb hb) w W → ∀ j u, us[j]? = some u → W.cell? ⟨b, off + k * 9 + j, none⟩ = some u := fun W hW j u hj => ((hW.low (by rintro x (rfl | rfl) <;> assumption) hB).cell (p := ⟨b, off + k * 9 + j, none⟩) hblt).trans (hcell j u hj)
         obtain ⟨w7, w8, rfl, f7, f8, -⟩ := Core.cells hus
         obtain ⟨d7, e7, rfl⟩ := f7.slice_inv
         obtain ⟨d8, e8, rfl⟩ := f8.slice_inv
         have HCL := Lib.hid hcl
         have HCA := Lib.hid hIH
         have HT := Lib.hid (Core.kids_take s tops (bindAt pk) pn hlt hA)
         have HST1 := Lib.hid (⟨hh1, ho1, hbd⟩ : Holds wr bb hb 4 s1 ∧ s1.Of n ∧ ∀ j, bindAt pk = some j → j < k → 0 ≤ pn ∧ pn < (n : Int))
         have HKB := Lib.hid (⟨hbel, hbx⟩ : Kept (Xs bb hb) w wr ∧ Blk wr w.heap.size box 38)
         have hbkk := hbel.blk HK.out (Xs.not hkb hkh)
         have HBK := Lib.hid hbkk
         clear hIH hcl hcell hus f7 f8 hA hh1 ho1 hbd hbel hbx hsub hbkk
         go_upto_region 28 with fail
         go_cut [7, 183] (fun v7 v wx => v7 = .bool bf ∧ v = .bool (decide (bindAt pk = some k)) ∧ wx = wr)
         case first => as_aux_lemma =>
          by_cases k7 : pk = 7
          ·have t7 : (pk == 7) = true := by simpa using k7
           have t7n : (pk != 7) = false := by simpa using k7
           have hb : bf = true := by rw [← HBF.out, k7]; rfl
           have HB := Lib.hid (show bindAt pk = some 1 by rw [k7]; rfl)
           clear k7
           by_cases h0 : k = 0
           ·have z0 : ((k : Int) == 0) = true := by simp [h0]
            have z1 : ((k : Int) == 1) = false := by simp [h0]
            have HD := Lib.hid (show decide (bindAt pk = some k) = false by rw [HB.out, decide_eq_false]; rw [h0]; simp)
            clear h0
            go_wp2_with fail
            go_meet
            exact ⟨by first | rfl | rw [hb], by rw [HD.out], rfl⟩
           have z0 : ((k : Int) == 0) = false := by rw [int_beq, decide_eq_false]; omega
           by_cases h1 : k = 1
           ·have z1 : ((k : Int) == 1) = true := by simp [h1]
            have HD := Lib.hid (show decide (bindAt pk = some k) = true by rw [HB.out, decide_eq_true]; rw [h1])
            clear h0 h1
            go_wp2_with fail
            go_meet
            exact ⟨by first | rfl | rw [hb], by rw [HD.out], rfl⟩
           have z1 : ((k : Int) == 1) = false := by rw [int_beq, decide_eq_false]; omega
           have HD := Lib.hid (show decide (bindAt pk = some k) = false by rw [HB.out, decide_eq_false]; intro e; injection e; omega)
           clear h0 h1
           go_wp2_with fail
           go_meet
           exact ⟨by first | rfl | rw [hb], by rw [HD.out], rfl⟩
          have t7 : (pk == 7) = false := by simpa using k7
          have t7n : (pk != 7) = true := by simpa using k7
          by_cases k58 : pk = 5 ∨ pk = 8
          ·have HB := Lib.hid (show bindAt pk = some 0 by unfold bindAt; rw [if_pos k58])
           have hb : bf = true := by rw [← HBF.out, HB.out]; rfl
           clear k58 k7
           by_cases h0 : k = 0
           ·have z0 : ((k : Int) == 0) = true := by simp [h0]
            have HD := Lib.hid (show decide (bindAt pk = some k) = true by rw [HB.out, decide_eq_true]; rw [h0])
            clear h0
            go_wp2_with fail
            go_meet
            exact ⟨by first | rfl | rw [hb], by rw [HD.out], rfl⟩
           have z0 : ((k : Int) == 0) = false := by rw [int_beq, decide_eq_false]; omega
           have HD := Lib.hid (show decide (bindAt pk = some k) = false by rw [HB.out, decide_eq_false]; intro e; injection e; omega)
           clear h0
           go_wp2_with fail
           go_meet
           exact ⟨by first | rfl | rw [hb], by rw [HD.out], rfl⟩
          have HB := Lib.hid (show bindAt pk = none by unfold bindAt; rw [if_neg k58, if_neg k7])
          have hb : bf = false := by rw [← HBF.out, HB.out]; rfl
          have HD := Lib.hid (show decide (bindAt pk = some k) = false by rw [HB.out, decide_eq_false]; simp)
          clear k58 k7
          go_wp2_with fail
          go_meet
          exact ⟨by first | rfl | rw [hb], by rw [HD.out], rfl⟩
         case rest => as_aux_lemma =>
          obtain ⟨rfl, rfl, rfl⟩ := hcut
          by_cases hbk : bindAt pk = some k
          ·rw [decide_eq_true hbk]
           have x1 : wc.cell? ⟨w.heap.size, 1, none⟩ = some (.int .i64 pn) := (HKB.out.2.cell 1).trans HBX.out.2.1
           rw [if_pos hbk] at HT
           have HBK2 := Lib.hid hbk
           clear hbk
           go_wp2_with fail
           refine (rbind_any pn kb bb hb n dv cv tv vars tops s1 _ hbt hkb hkh HBK.out HST1.out.1 HST1.out.2.1 hn).mono ?_
           rintro e w2 ⟨rfl, hk2, st2, hh2, ho2, hs2⟩
           have hkw := HKB.out.1.trans hk2
           have hbx2 := hk2.blk HKB.out.2 (Xs.not (by omega) (by omega))
           cases hbn : s1.bind pn with
           | none =>
             rw [hbn] at HT
             have hO : o = none := by rw [HM.out, if_pos trivial, Core.kids_stop s tops (bindAt pk) pn HT.out]; rfl
             have HI2 := Lib.hid (show KInv s tops pk l pn st bb hb n box 38 true o w w2 (k + 1) false from ⟨hkw, hbx2, .inr ⟨rfl, hO, st2, hh2, ho2⟩⟩)
             clear hO hkw hbx2 hk2 hh2 ho2 hs2 hbn x1 x0
             go_wp2
             go_roundw
             case rel => exact ⟨k + 1, false, hlt, by go_num, rfl, HI2⟩
             case measure => simp [intOf]; omega
           | some s2 =>
             obtain rfl := hs2 s2 hbn
             rw [hbn] at HT
             have hbd := Lib.hid (Bnd.bind_of HST1.out.2.1 hbn).2
             have HHO := Lib.hid (⟨hh2, ho2⟩ : Holds w2 bb hb 4 st2 ∧ st2.Of n)
             have HKW := Lib.hid (⟨hkw, hbx2⟩ : Kept (Xs bb hb) w w2 ∧ Blk w2 w.heap.size box 38)
             clear hkw hbx2 hk2 hh2 ho2 hs2 hbn x1 x0
             have g7 : ∀ W, Kept (Xs bb hb) w W → Blk W w.heap.size box 38 → W.cell? ⟨w.heap.size, 7, none⟩ = some (.slice (some ⟨b, off, none⟩) l.length c7) := fun W _ h => (h.cell 7).trans HBX.out.2.2.1
             have x7 := g7 w2 HKW.out.1 HKW.out.2
             have m0 := HCL.out w2 HKW.out.1 0 _ rfl
             simp only [Nat.add_zero] at m0
             have m1 := HCL.out w2 HKW.out.1 1 _ rfl
             have m2 := HCL.out w2 HKW.out.1 2 _ rfl
             have m3 := HCL.out w2 HKW.out.1 3 _ rfl
             have m4 := HCL.out w2 HKW.out.1 4 _ rfl
             have m5 := HCL.out w2 HKW.out.1 5 _ rfl
             have m6 := HCL.out w2 HKW.out.1 6 _ rfl
             have m7 := HCL.out w2 HKW.out.1 7 _ rfl
             have m8 := HCL.out w2 HKW.out.1 8 _ rfl
             clear g7
             go_wp2_with fail
             refine (HCA.out w2 st2 HKW.out.1 HHO.out.1 HHO.out.2).mono ?_
             rintro e w3 ⟨rfl, hk3, st3, hh3, ho3, hs3⟩
             have hkw3 := HKW.out.1.trans hk3
             have hbx3 := hk3.blk HKW.out.2 (Xs.not (by omega) (by omega))
             cases hmm : l[k].may s tops st2 with
             | none =>
               have hT2 : Core.kids s tops (bindAt pk) pn 0 (l.take (k + 1)) st = none := HT.out.trans hmm
               have hO : o = none := by rw [HM.out, if_pos trivial, Core.kids_stop s tops (bindAt pk) pn hT2]; rfl
               have HI2 := Lib.hid (show KInv s tops pk l pn st bb hb n box 38 true o w w3 (k + 1) false from ⟨hkw3, hbx3, .inr ⟨rfl, hO, st3, hh3, ho3⟩⟩)
               clear hO hT2 hkw3 hbx3 hk3 hh3 ho3 hs3 hmm
               go_wp2
               go_roundw
               case rel => exact ⟨k + 1, false, hlt, by go_num, rfl, HI2⟩
               case measure => simp [intOf]; omega
             | some s4 =>
               obtain rfl := hs3 s4 hmm
               have hT2 : Core.kids s tops (bindAt pk) pn 0 (l.take (k + 1)) st = some st3 := HT.out.trans hmm
               have HI2 := Lib.hid (show KInv s tops pk l pn st bb hb n box 38 true o w w3 (k + 1) true from ⟨hkw3, hbx3, .inl ⟨rfl, rfl, st3, hT2, hh3, ho3, fun j hj hjk => hbd.out⟩⟩)
               clear hT2 hkw3 hbx3 hk3 hh3 ho3 hs3 hmm
               go_wp2
               go_roundw
               case rel => exact ⟨k + 1, true, hlt, by go_num, rfl, HI2⟩
               case measure => simp [intOf]; omega
          ·rw [decide_eq_false hbk]
           rw [if_neg hbk] at HT
           have HBK2 := Lib.hid hbk
           have HHO := Lib.hid (⟨HST1.out.1, HST1.out.2.1⟩ : Holds wc bb hb 4 s1 ∧ s1.Of n)
           have HKW := HKB
           clear hbk x0
           have g7 : ∀ W, Kept (Xs bb hb) w W → Blk W w.heap.size box 38 → W.cell? ⟨w.heap.size, 7, none⟩ = some (.slice (some ⟨b, off, none⟩) l.length c7) := fun W _ h => (h.cell 7).trans HBX.out.2.2.1
           have x7 := g7 wc HKW.out.1 HKW.out.2
           have m0 := HCL.out wc HKW.out.1 0 _ rfl
           simp only [Nat.add_zero] at m0
           have m1 := HCL.out wc HKW.out.1 1 _ rfl
           have m2 := HCL.out wc HKW.out.1 2 _ rfl
           have m3 := HCL.out wc HKW.out.1 3 _ rfl
           have m4 := HCL.out wc HKW.out.1 4 _ rfl
           have m5 := HCL.out wc HKW.out.1 5 _ rfl
           have m6 := HCL.out wc HKW.out.1 6 _ rfl
           have m7 := HCL.out wc HKW.out.1 7 _ rfl
           have m8 := HCL.out wc HKW.out.1 8 _ rfl
           clear g7
           go_wp2_with fail
           refine (HCA.out wc s1 HKW.out.1 HHO.out.1 HHO.out.2).mono ?_
           rintro e w3 ⟨rfl, hk3, st3, hh3, ho3, hs3⟩
           have hkw3 := HKW.out.1.trans hk3
           have hbx3 := hk3.blk HKW.out.2 (Xs.not (by omega) (by omega))
           cases hmm : l[k].may s tops s1 with
           | none =>
             have hT2 : Core.kids s tops (bindAt pk) pn 0 (l.take (k + 1)) st = none := HT.out.trans hmm
             have hO : o = none := by rw [HM.out, if_pos trivial, Core.kids_stop s tops (bindAt pk) pn hT2]; rfl
             have HI2 := Lib.hid (show KInv s tops pk l pn st bb hb n box 38 true o w w3 (k + 1) false from ⟨hkw3, hbx3, .inr ⟨rfl, hO, st3, hh3, ho3⟩⟩)
             clear hO hT2 hkw3 hbx3 hk3 hh3 ho3 hs3 hmm
             go_wp2
             go_roundw
             case rel => exact ⟨k + 1, false, hlt, by go_num, rfl, HI2⟩
             case measure => simp [intOf]; omega
           | some s4 =>
             obtain rfl := hs3 s4 hmm
             have hT2 : Core.kids s tops (bindAt pk) pn 0 (l.take (k + 1)) st = some st3 := HT.out.trans hmm
             have HI2 := Lib.hid (show KInv s tops pk l pn st bb hb n box 38 true o w w3 (k + 1) true from ⟨hkw3, hbx3, .inl ⟨rfl, rfl, st3, hT2, hh3, ho3, fun j hj hjk => (HST1.out.2.2 j hj (Nat.lt_of_le_of_ne (Nat.le_of_lt_succ hjk) (fun e => HBK2.out (e ▸ hj))))⟩⟩)
             clear hT2 hkw3 hbx3 hk3 hh3 ho3 hs3 hmm
             go_wp2
             go_roundw
             case rel => exact ⟨k + 1, true, hlt, by go_num, rfl, HI2⟩
             case measure => simp [intOf]; omega
        ·have e1 : decide ((k : Int) < (l.length : Int)) = false := decide_eq_false (by omega)
         have hkk : k = l.length := by omega
         subst hkk
         go_wp2
         go_meet
         exact ⟨true, rfl, HI⟩
       ·have HF : Hid (KInv s tops pk l pn st bb hb n box 38 q o w wr l.length false) := Lib.hid ⟨hbel, hbx, .inr ⟨rfl, hO, s1, hh1, ho1⟩⟩
        clear hbel hbx hO hh1 ho1
        by_cases hlt : k < l.length
        ·have e1 : decide ((k : Int) < (l.length : Int)) = true := decide_eq_true (by omega)
         go_wp2
         go_meet
         exact ⟨false, rfl, HF⟩
        ·have e1 : decide ((k : Int) < (l.length : Int)) = false := decide_eq_false (by omega)
         go_wp2
         go_meet
         exact ⟨false, rfl, HF⟩
     case rest => as_aux_lemma =>
      obtain ⟨ok, rfl, HI⟩ := hcut
      go_upto_region 31 with fail
      go_cut [6, 7, 201] (fun v6 v7 v wx => v6 = .bool ok ∧ v7 = .bool bf ∧ v = .bool (bf && ok) ∧ wx = wc)
      case first => as_aux_lemma =>
       clear HM HBF HST HI HQ
       cases bf
       all_goals cases ok
       all_goals
        go_wp2_with fail
        go_meet
        exact ⟨rfl, rfl, rfl, rfl⟩
      case rest => as_aux_lemma =>
       obtain ⟨rfl, rfl, rfl, rfl⟩ := hcut
       obtain ⟨d, hd⟩ : ∃ d, (bf && ok) = d := ⟨_, rfl⟩
       rw [hd]
       have HD := Lib.hid hd
       clear hd
       go_upto_if 201 with fail
       go_cut [6] (fun v6 wx => v6 = .bool ok ∧ Hid (RDInv s tops pk l pn st bb hb n box 38 q o bf w wx ok))
       case first => as_aux_lemma =>
        cases d
        ·have hdi : RDInv s tops pk l pn st bb hb n box 38 q o bf w wc ok := by
          obtain ⟨h1, h2, h3⟩ := HI.out
          refine ⟨h1, h2, ?_⟩
          rcases h3 with ⟨rfl, hq, s1, g1, g2, g3, -⟩ | ⟨rfl, g1, g2⟩
          ·have hb : bf = false := by have := HD.out; simpa using this
           subst hb
           rw [List.take_length] at g1
           exact .inl ⟨rfl, hq, s1, g1, g2, g3⟩
          ·exact .inr ⟨rfl, g1, g2⟩
         have HDI := Lib.hid hdi
         clear hdi
         go_wp2_with fail
         go_meet
         exact ⟨rfl, HDI⟩
        ·have hbt2 : bf = true ∧ ok = true := by have := HD.out; simpa using this
         obtain ⟨h1, h2, h3⟩ := HI.out
         rcases h3 with ⟨-, hq, s1, g1, g2, g3, g4⟩ | ⟨h, -⟩
         ·rw [List.take_length] at g1
          obtain ⟨hp0, hpn⟩ : 0 ≤ pn ∧ pn < (n : Int) := by
           have hs : shapeC s tops pk pn l arms.length st = true := HQ.out.trans hq
           have hb := HBF.out.trans hbt2.1
           have : ∃ j, bindAt pk = some j ∧ j < l.length := by
            unfold bindAt at hb ⊢
            by_cases h58 : pk = 5 ∨ pk = 8
            ·rw [if_pos h58]
             refine ⟨0, rfl, ?_⟩
             rcases h58 with rfl | rfl
             ·have : l.length = 1 := by simpa [shapeC] using hs
              omega
             ·have : l.length = 2 := by simp [shapeC] at hs; exact hs.1
              omega
            ·rw [if_neg h58] at hb ⊢
             by_cases h7 : pk = 7
             ·rw [if_pos h7]
              subst h7
              have : l.length = 2 := by simpa [shapeC] using hs
              exact ⟨1, rfl, by omega⟩
             ·rw [if_neg h7] at hb; cases hb
           obtain ⟨j, hj1, hj2⟩ := this
           exact g4 j hj1 hj2
          obtain ⟨i, rfl⟩ := Int.eq_ofNat_of_zero_le hp0
          have hin : i < n := by omega
          have x1 : wc.cell? ⟨w.heap.size, 1, none⟩ = some (.int .i64 (i : Int)) := (h2.cell 1).trans HBX.out.2.1
          have y5 : wc.cell? ⟨kb, 5, none⟩ = some (.slice (some ⟨hb, 0, none⟩) n n) := ((h1.blk HK.out (Xs.not hkb hkh)).cell 5).trans rfl
          have f5 : wc.frozen? ⟨hb, i, none⟩ = false := g2.here.free i
          have hbs : (bools s1.here)[i]? = some (.bool (s1.here[i]'(by rw [g3.2]; exact hin))) := bools_get _ _ _ (List.getElem?_eq_getElem _)
          have y6 := (g2.here.cell i).trans hbs
          obtain ⟨qq, hqq⟩ : ∃ x, s1.here[i]'(by rw [g3.2]; exact hin) = x := ⟨_, rfl⟩
          rw [hqq] at y6
          have hdi : RDInv s tops pk l (i : Int) st bb hb n box 38 q o bf w (wc.setCell ⟨hb, i, none⟩ (.bool false)) ok := by
           refine ⟨h1.setX (.inr rfl) _, h2.setOther (a := ⟨hb, i, none⟩) (by show w.heap.size ≠ hb; omega) _, .inl ⟨hbt2.2, hq, s1, g1, ?_, ?_⟩⟩
           ·rw [hbt2.1]
            exact g2.setHere hbt i false
           ·exact g3
          have HDI := Lib.hid hdi
          have i1 : (i : Int) < (n : Int) := by omega
          have i2 : (0 : Int) ≤ (i : Int) := by omega
          clear hdi hqq hbs h1 h2 g1 g2 g3 g4 hbt2 hq hp0 hpn
          go_wp2_with fail
          go_region
          all_goals
           go_wp2_with fail
           go_meet
           exact ⟨rfl, Lib.hid HDI.out.drewN⟩
         ·rw [hbt2.2] at h; cases h
       case rest => as_aux_lemma =>
        obtain ⟨rfl, HDI⟩ := hcut
        clear HI HST HD
        by_cases k10 : pk = 10
        ·have t10 : (pk == 10) = true := by simpa using k10
         have hbff : bf = false := by rw [← HBF.out, k10]; rfl
         have HM10 := Lib.hid (show o = if q = true then (Core.kids s tops (bindAt pk) pn 0 l st).bind fun st1 => CArm.mays s tops arms st1 else none by rw [HM.out, k10]; simp)
         have hai : AInv s tops pk l arms pn st bb hb n box 38 q o w wc 0 ok := by
          obtain ⟨h1, h2, h3⟩ := HDI.out
          refine ⟨h1, h2, ?_⟩
          rcases h3 with ⟨rfl, hq, s1, g1, g2, g3⟩ | ⟨rfl, g1, g2⟩
          ·subst hbff
           exact .inl ⟨rfl, hq, s1, s1, g1, rfl, g2, g3⟩
          ·exact .inr ⟨rfl, g1, g2⟩
         have HAI := Lib.hid hai
         clear HDI hai k10 HM hbff
         go_wp2_with fail
         go_loopw [9, 6] (fun u u6 wr => ∃ (i : Nat) (ok : Bool), i ≤ arms.length ∧ u = .int .i64 i ∧ u6 = .bool ok ∧ Hid (AInv s tops pk l arms pn st bb hb n box 38 q o w wr i ok)) (fun u _ _ => arms.length - (intOf u).toNat)
         case atStart => exact ⟨0, ok, Nat.zero_le _, rfl, rfl, HAI⟩
         case round =>
          clear HAI ok
          obtain ⟨wo, rfl⟩ : ∃ x, x = wr := ⟨_, rfl⟩
          obtain ⟨i, ok, hil, rfl, rfl, HI⟩ := hrel
          obtain ⟨hbel, hbx, hgot⟩ := HI.out
          have x0 : wo.cell? ⟨w.heap.size, 0, none⟩ = some (.int .u8 pk) := (hbx.cell 0).trans HBX.out.1
          have x8 : wo.cell? ⟨w.heap.size, 8, none⟩ = some (.slice a8 arms.length c8) := (hbx.cell 8).trans HBX.out.2.2.2
          have hszr := hbel.size
          have hbxl := hbx.lt
          rcases hgot with ⟨rfl, hq, s0, s1, hA0, hA, hh1, ho1⟩ | ⟨rfl, hO, s1, hh1, ho1⟩
          ·by_cases hlt : i < arms.length
           ·have e1 : decide ((i : Int) < (arms.length : Int)) = true := decide_eq_true (by omega)
            have HQ2 := Lib.hid hq
            have HO1 := Lib.hid ho1
            have HA0 := Lib.hid hA0
            have HT := Lib.hid (CArm.mays_take s tops hlt hA)
            have HS := Lib.hid (fun h => CArm.mays_stop s tops hlt hA h)
            have HNO := Lib.hid (fun (h : arms[i].may s tops s1 = none) => (show o = none by rw [HM10.out, if_pos hq, hA0]; exact CArm.mays_stop s tops hlt hA h))
            obtain ⟨b, off, cap', us, hv, hblt, hc, hcell, hus⟩ := G8.out.elem CArm.d_len rfl i hlt (by omega)
            injection hv with ha hn' hcap
            subst ha hcap
            have hcl : ∀ W, Kept (Xs bb hb) w W → ∀ j u, us[j]? = some u → W.cell? ⟨b, off + i * 17 + j, none⟩ = some u := fun W hW j u hj => ((hW.low (by rintro x (rfl | rfl) <;> assumption) hB).cell (p := ⟨b, off + i * 17 + j, none⟩) hblt).trans (hcell j u hj)
            obtain ⟨u1, u2, rfl, f1, f2⟩ := CArm.cells hus
            have F1 := Lib.hid f1
            have F2 := Lib.hid f2
            have hsub := CArm.sizes_get arms i hlt
            have hes := arms[i].size_eq
            obtain ⟨x7, hu1, y7, -⟩ := CPat.cells f1
            obtain ⟨z7, z8, hu2, y7', y8', -⟩ := Core.cells f2
            obtain ⟨a1, k1, rfl⟩ := y7.slice_inv
            obtain ⟨a2, k2, rfl⟩ := y7'.slice_inv
            obtain ⟨a3, k3, rfl⟩ := y8'.slice_inv
            subst hu1 hu2
            simp only [List.cons_append, List.nil_append] at hcl
            have HCL := Lib.hid hcl
            have hlow : ∀ W, Kept (Xs bb hb) w W → Below B w W := fun W hW => hW.low (by rintro x (rfl | rfl) <;> assumption) hB
            obtain ⟨W0, hW0⟩ : ∃ W, wo.alloc (.cells #[.slice none 0 0] 53) = W := ⟨_, rfl⟩
            have hk0 : Kept (Xs bb hb) w W0 := by rw [← hW0]; exact hbel.alloc _
            have hb0 : Below wo.heap.size wo W0 := by rw [← hW0]; exact (Below.refl _ _).alloc (Nat.le_refl _) _
            have hrow0 : RowAt W0 wo.heap.size (.slice none 0 0) [] := by rw [← hW0]; exact ⟨Blk.new _ _ _ _ rfl, own_nil _ _⟩
            have hpat := rpat_any s kb bb hb wo.heap.size n B dv cv tv vars tops hl hf hbt hkb hkh (by omega) (by omega) (by omega) hB1 hB2 hn arms[i].p.size arms[i].p _ W0 s1 [] (.slice none 0 0) (Nat.le_refl _) (by have := HSE.out; simp only [List.length_nil]; omega)
             (hk0.blk HK.out (Xs.not hkb hkh)) (hh1.below hb0) ho1 (HC.out.keep (hlow W0 hk0)) (F1.out.keep (hlow W0 hk0)) hrow0
            have HPAT := Lib.hid hpat
            have hcore := fun (W : World) (s2 : Bnd) (hW : Kept (Xs bb hb) w W) (hh : Holds W bb hb 4 s2) (ho : s2.Of n) =>
             IH.out arms[i].e _ s2 W (by have := HSE.out; omega) (by have := HSE.out; omega) (hW.blk HK.out (Xs.not hkb hkh)) (Nat.le_trans hB hW.size) (HC.out.keep (hlow W hW)) (F2.out.keep (hlow W hW)) hh ho
            have HCO := Lib.hid hcore
            have hbx0 : Blk W0 w.heap.size box 38 := hbx.below hb0 hbxl
            have HK0 := Lib.hid (⟨hk0, hbx0⟩ : Kept (Xs bb hb) w W0 ∧ Blk W0 w.heap.size box 38)
            have v8 : W0.cell? ⟨w.heap.size, 8, none⟩ = some (.slice (some ⟨b, off, none⟩) arms.length c8) := (hbx0.cell 8).trans HBX.out.2.2.2
            have hs0 : wo.heap.size < W0.heap.size := by rw [← hW0]; simp
            have HARM := Lib.hid (arm_bnd s tops arms[i] s1)
            have hps : arms[i].p.size ≤ 1048576 := by have := HSE.out; omega
            have m0 := HCL.out W0 hk0 0 _ rfl
            have m1 := HCL.out W0 hk0 1 _ rfl
            have m2 := HCL.out W0 hk0 2 _ rfl
            have m3 := HCL.out W0 hk0 3 _ rfl
            have m4 := HCL.out W0 hk0 4 _ rfl
            have m5 := HCL.out W0 hk0 5 _ rfl
            have m6 := HCL.out W0 hk0 6 _ rfl
            have m7 := HCL.out W0 hk0 7 _ rfl
            simp only [Nat.add_zero] at m0
            clear hcl hcell hus f1 f2 y7 y7' y8' hlow hk0 hb0 hrow0 hpat hcore hbx0 hA hA0 hh1 ho1 hbel hbx HI hq hes
            go_upto_region 37 with fail
            try rw [hW0]
            clear hW0
            go_wp2_with fail
            refine HPAT.out.mono ?_
            rintro e w2 ⟨rfl, hk2, ⟨st2, hh2, ho2, hv2⟩, hsome⟩
            have hkw2 : Kept (Xs bb hb) w w2 := HK0.out.1.trans2 hk2 (by
             rintro x hx (h | h | h | h)
             ·exact .inl h
             ·exact .inr h
             ·omega
             ·cases h)
            have hbx2 : Blk w2 w.heap.size box 38 := hk2.blk HK0.out.2 (by
             rintro (h | h | h | h)
             ·omega
             ·omega
             ·omega
             ·cases h)
            have HKW2 := Lib.hid (⟨hkw2, hbx2⟩ : Kept (Xs bb hb) w w2 ∧ Blk w2 w.heap.size box 38)
            clear m0 m1 m2 m3 m4 m5 m6 m7 v8 x0 x8 hk2
            cases hnm : arms[i].p.bnd s s1 with
            | none =>
              obtain ⟨va, vm, vc, hvv⟩ := hv2
              have g39 : w2.cell? ⟨wo.heap.size, 0, none⟩ = some (.slice va vm vc) := hvv.cell 0
              have HI2 := Lib.hid (show AInv s tops pk l arms pn st bb hb n box 38 q o w w2 (i + 1) false from ⟨hkw2, hbx2, .inr ⟨rfl, HNO.out (by rw [HARM.out, hnm]; rfl), st2, hh2, ho2⟩⟩)
              clear hvv hkw2 hbx2 hsome hh2 ho2 hnm
              go_wp2_with fail
              go_loopw [11] (fun u wq => u = .int .i64 0 ∧ wq = w2) (fun _ _ => 0)
              case atStart => exact ⟨rfl, rfl⟩
              case round =>
               obtain ⟨rfl, rfl⟩ := hrel
               by_cases hvm : (0 : Int) < (vm : Int)
               ·have e3 : decide ((0 : Int) < (vm : Int)) = true := decide_eq_true hvm
                clear hvm
                go_wp2
                all_goals
                 go_roundw
                 case rel => exact ⟨i + 1, false, hlt, by go_num, rfl, HI2⟩
                 case measure => simp [intOf]; omega
               ·have e3 : decide ((0 : Int) < (vm : Int)) = false := decide_eq_false hvm
                clear hvm
                go_wp2
                all_goals
                 go_roundw
                 case rel => exact ⟨i + 1, false, hlt, by go_num, rfl, HI2⟩
                 case measure => simp [intOf]; omega
            | some y =>
              obtain ⟨nm, s2⟩ := y
              obtain ⟨hh2', ho2', V', hrow, hV'⟩ := hsome nm s2 hnm
              rw [List.nil_append] at hrow
              have hbin := bnd_binds hnm
              have hnml : nm.length ≤ 1048576 := Nat.le_trans (bnd_len hnm) hps
              have v8 : w2.cell? ⟨w.heap.size, 8, none⟩ = some (.slice (some ⟨b, off, none⟩) arms.length c8) := (hbx2.cell 8).trans HBX.out.2.2.2
              have m0 := HCL.out w2 hkw2 8 _ rfl
              have m1 := HCL.out w2 hkw2 9 _ rfl
              have m2 := HCL.out w2 hkw2 10 _ rfl
              have m3 := HCL.out w2 hkw2 11 _ rfl
              have m4 := HCL.out w2 hkw2 12 _ rfl
              have m5 := HCL.out w2 hkw2 13 _ rfl
              have m6 := HCL.out w2 hkw2 14 _ rfl
              have m7 := HCL.out w2 hkw2 15 _ rfl
              have m8 := HCL.out w2 hkw2 16 _ rfl
              have HHO := Lib.hid (⟨hh2', ho2'⟩ : Holds w2 bb hb 4 s2 ∧ s2.Of n)
              have HROW := Lib.hid hrow
              have HARM2 := Lib.hid (HARM.out.trans (by rw [hnm]; rfl : _ = (arms[i].e.may s tops s2).map fun s3 => s3.drops nm))
              have HVS := Lib.hid (Bnd.binds_of nm HO1.out hbin).2
              have HBIN := Lib.hid hbin
              clear hkw2 hbx2 hsome hh2 ho2 hnm hv2 hh2' ho2' hrow hV' hbin
              go_wp2_with fail
              refine (HCO.out w2 s2 HKW2.out.1 HHO.out.1 HHO.out.2).mono ?_
              rintro e w3 ⟨rfl, hk3, st3, hh3, ho3, hs3⟩
              have hkw3 := HKW2.out.1.trans hk3
              have hbx3 := hk3.blk HKW2.out.2 (Xs.not (by omega) (by omega))
              have hrow3 : RowAt w3 wo.heap.size V' nm := HROW.out.kept hk3 (by rintro x hx (h | h) <;> omega)
              clear v8 m0 m1 m2 m3 m4 m5 m6 m7 m8
              cases hmm : arms[i].e.may s tops s2 with
              | none =>
                obtain ⟨va, vm, vc, hvv⟩ := hrow3.vr
                have g39 : w3.cell? ⟨wo.heap.size, 0, none⟩ = some (.slice va vm vc) := hvv.cell 0
                have HI2 := Lib.hid (show AInv s tops pk l arms pn st bb hb n box 38 q o w w3 (i + 1) false from ⟨hkw3, hbx3, .inr ⟨rfl, HNO.out (by rw [HARM2.out, hmm]; rfl), st3, hh3, ho3⟩⟩)
                clear hvv hkw3 hbx3 hk3 hh3 ho3 hs3 hmm hrow3
                go_wp2_with fail
                go_loopw [11] (fun u wq => u = .int .i64 0 ∧ wq = w3) (fun _ _ => 0)
                case atStart => exact ⟨rfl, rfl⟩
                case round =>
                 obtain ⟨rfl, rfl⟩ := hrel
                 by_cases hvm : (0 : Int) < (vm : Int)
                 ·have e3 : decide ((0 : Int) < (vm : Int)) = true := decide_eq_true hvm
                  clear hvm
                  go_wp2
                  all_goals
                   go_roundw
                   case rel => exact ⟨i + 1, false, hlt, by go_num, rfl, HI2⟩
                   case measure => simp [intOf]; omega
                 ·have e3 : decide ((0 : Int) < (vm : Int)) = false := decide_eq_false hvm
                  clear hvm
                  go_wp2
                  all_goals
                   go_roundw
                   case rel => exact ⟨i + 1, false, hlt, by go_num, rfl, HI2⟩
                   case measure => simp [intOf]; omega
              | some s4 =>
                obtain rfl := hs3 s4 hmm
                have hT2 : CArm.mays s tops (arms.take (i + 1)) s0 = some (st3.drops nm) := HT.out.trans (HARM2.out.trans (by rw [hmm]; rfl))
                have HT2 := Lib.hid hT2
                have HJ := Lib.hid (show JInv bb hb wo.heap.size box 38 (st3.drops (nm.take 0)) nm V' w w3 from ⟨hkw3, hbx3, hh3, hrow3⟩)
                have HO3 := Lib.hid ho3
                obtain ⟨va, vc, rfl⟩ := own_slice hrow3.own
                have g39 : w3.cell? ⟨wo.heap.size, 0, none⟩ = some (.slice va nm.length vc) := hrow3.var.cell 0
                clear hT2 hkw3 hbx3 hk3 hh3 ho3 hs3 hmm hrow3
                go_wp2_with fail
                go_loopw [11] (fun u wq => ∃ j : Nat, j ≤ nm.length ∧ u = .int .i64 j ∧ Hid (JInv bb hb wo.heap.size box 38 (st3.drops (nm.take j)) nm (.slice va nm.length vc) w wq)) (fun u _ => nm.length - (intOf u).toNat)
                case atStart => exact ⟨0, Nat.zero_le _, rfl, HJ⟩
                case round =>
                 clear g39 HJ
                 obtain ⟨wq, rfl⟩ : ∃ x, x = wr := ⟨_, rfl⟩
                 obtain ⟨j, hjl, rfl, HJ2⟩ := hrel
                 obtain ⟨j1, j2, j3, j4⟩ := HJ2.out
                 have hszq := j1.size
                 have g39 := j4.var.cell 0
                 simp only [List.getElem?_toArray, List.getElem?_cons_zero] at g39
                 by_cases hjlt : j < nm.length
                 ·have e3 : decide ((j : Int) < (nm.length : Int)) = true := decide_eq_true (by omega)
                  obtain ⟨gb, goff, gcap, hgv, hgX, hgl, hgc, hgcell⟩ := (own_ints (bb := bb) (hb := hb) j4.own (by omega) (by omega)).at j hjlt
                  injection hgv with ha hn' hcap
                  subst ha hcap
                  have hv := HVS.out nm[j] (List.getElem_mem _)
                  have hdt := Bnd.drops_take hjlt st3
                  obtain ⟨v, hv'⟩ : ∃ v, nm[j] = v := ⟨_, rfl⟩
                  rw [hv'] at hgcell hv hdt
                  obtain ⟨vi, rfl⟩ := Int.eq_ofNat_of_zero_le hv.1
                  have hvn : vi < n := by omega
                  have g5 : wq.cell? ⟨kb, 5, none⟩ = some (.slice (some ⟨hb, 0, none⟩) n n) := ((j1.blk HK.out (Xs.not hkb hkh)).cell 5).trans rfl
                  have f5 : wq.frozen? ⟨hb, vi, none⟩ = false := j3.here.free vi
                  have hlh : (st3.drops (nm.take j)).here.length = n := (Bnd.drops_of (n := n) (nm.take j) HO3.out).2
                  have hbs : (bools (st3.drops (nm.take j)).here)[vi]? = some (.bool ((st3.drops (nm.take j)).here[vi]'(by rw [hlh]; exact hvn))) := bools_get _ _ _ (List.getElem?_eq_getElem _)
                  have y6 := (j3.here.cell vi).trans hbs
                  obtain ⟨qq, hqq⟩ : ∃ x, (st3.drops (nm.take j)).here[vi]'(by rw [hlh]; exact hvn) = x := ⟨_, rfl⟩
                  rw [hqq] at y6
                  have HJ3 := Lib.hid (show JInv bb hb wo.heap.size box 38 (st3.drops (nm.take (j + 1))) nm (.slice (some ⟨gb, goff, none⟩) nm.length vc) w (wq.setCell ⟨hb, vi, none⟩ (.bool false)) from
                   ⟨j1.setX (.inr rfl) _, j2.setOther (a := ⟨hb, vi, none⟩) (by show w.heap.size ≠ hb; omega) _, by rw [hdt]; exact j3.setHere hbt vi false, j4.kept ((Kept.refl (fun x => x = hb) wq).setX (a := ⟨hb, vi, none⟩) rfl _) (by rintro x hx rfl; omega)⟩)
                  have i1 : (vi : Int) < (n : Int) := by omega
                  have i2 : (0 : Int) ≤ (vi : Int) := by omega
                  have i3 : (j : Int) < (nm.length : Int) := by omega
                  clear hv hdt hv' hbs hqq hlh j1 j2 j3 j4 hjl hgX hgl hgc HJ2
                  go_wp2_with fail
                  go_region
                  all_goals
                   go_wp2
                   go_roundw
                   case rel => exact ⟨j + 1, hjlt, by go_num, Lib.hid HJ3.out.drewN⟩
                   case measure => simp [intOf]; omega
                 ·have e3 : decide ((j : Int) < (nm.length : Int)) = false := decide_eq_false (by omega)
                  have HI2 := Lib.hid (show AInv s tops pk l arms pn st bb hb n box 38 q o w wq (i + 1) true from ⟨j1, j2, .inl ⟨rfl, HQ2.out, s0, st3.drops nm, HA0.out, HT2.out, by rw [List.take_of_length_le (by omega)] at j3; exact j3, Bnd.drops_of nm HO3.out⟩⟩)
                  clear j1 j2 j3 j4 HJ2
                  go_wp2
                  go_roundw
                  case rel => exact ⟨i + 1, true, hlt, by go_num, rfl, HI2⟩
                  case measure => simp [intOf]; omega
           ·have e1 : decide ((i : Int) < (arms.length : Int)) = false := decide_eq_false (by omega)
            have hfin : Ans o bb hb n w (.returned (.bool true)) wo := by
             rw [List.take_of_length_le (by omega)] at hA
             have ho : o = some s1 := by rw [HM10.out, if_pos hq, hA0]; exact hA
             subst ho
             exact ⟨rfl, hbel, s1, hh1, ho1, fun x hx => by injection hx⟩
            have HFIN := Lib.hid hfin
            clear hfin hA hA0 hh1 ho1 hbel hbx
            go_wp2
            go_ret
            exact HFIN.out
          ·have hfin : Ans o bb hb n w (.returned (.bool false)) wo := by
            subst hO
            exact ⟨rfl, hbel, s1, hh1, ho1, fun x hx => by cases hx⟩
           have HFIN := Lib.hid hfin
           clear hfin hh1 ho1 hbel hbx hO
           by_cases hlt : i < arms.length
           ·have e1 : decide ((i : Int) < (arms.length : Int)) = true := decide_eq_true (by omega)
            go_wp2
            go_ret
            exact HFIN.out
           ·have e1 : decide ((i : Int) < (arms.length : Int)) = false := decide_eq_false (by omega)
            go_wp2
            go_ret
            exact HFIN.out
        ·have t10 : (pk == 10) = false := by simpa using k10
         have x0 : wc.cell? ⟨w.heap.size, 0, none⟩ = some (.int .u8 pk) := (HDI.out.box.cell 0).trans HBX.out.1
         have K10 := Lib.hid k10
         clear k10
         go_wp2_with fail
         go_loopw [9, 6] (fun u u6 wr => u = .int .i64 0 ∧ u6 = .bool ok ∧ wr = wc) (fun _ _ _ => 0)
         case atStart => exact ⟨rfl, rfl, rfl⟩
         case round =>
          obtain ⟨rfl, rfl, rfl⟩ := hrel
          go_wp2
          go_ret
          exact HDI.out.ans HM.out K10.out HBF.out
end Go.Proofs.YtdhodaefgliphaaGreatDoor
