/- Contracts of the document's answer for layer 14: Bound.pat. -/
import Derived.Test.YtdhodaefgliphaaGreatDoorRefG
import Derived.Test.YtdhodaefgliphaaGreatDoorMayI
import Derived.Deep.AppendLies
import Derived.Deep.RegionLaw
set_option linter.unusedVariables false
set_option linter.unusedSimpArgs false
namespace Go.Proofs.YtdhodaefgliphaaGreatDoor
open Go.RowKit
namespace CPat
def bnd (s : Sig) (p : CPat) (st : Bnd) : Option (List Int × Bnd) := (p.names s).bind fun l => (st.binds l).map fun x => (l, x)
def bndL (s : Sig) (l : List CPat) (st : Bnd) : Option (List Int × Bnd) := (CPat.namesL s l).bind fun l => (st.binds l).map fun x => (l, x)
theorem bnd_none {s : Sig} {p : CPat} {st : Bnd} (h : p.names s = none) : p.bnd s st = none := by simp [bnd, h]
theorem bnd_some {s : Sig} {p : CPat} {st : Bnd} {l : List Int} (h : p.names s = some l) : p.bnd s st = (st.binds l).map fun x => (l, x) := by simp [bnd, h]
theorem bnd_five {s : Sig} {p : CPat} {st : Bnd} {l : List CPat} {n : Int} (h : p.names s = (CPat.namesL s l).bind fun all => if s.has n l.length then some all else none) : p.bnd s st = if s.has n l.length then bndL s l st else none := by
 unfold bnd bndL
 rw [h]
 cases CPat.namesL s l <;> cases s.has n l.length <;> simp
theorem bndL_take (s : Sig) {l : List CPat} {k : Nat} (hk : k < l.length) {st s1 : Bnd} {a : List Int} (h : bndL s (l.take k) st = some (a, s1)) :
  bndL s (l.take (k + 1)) st = (l[k].bnd s s1).map fun x => (a ++ x.1, x.2) := by
 unfold bndL at h
 rw [Option.bind_eq_some_iff] at h
 obtain ⟨a', h1, h2⟩ := h
 rw [Option.map_eq_some_iff] at h2
 obtain ⟨s1', h3, h4⟩ := h2
 injection h4 with h5 h6
 subst h5 h6
 unfold bndL bnd
 rw [namesL_take s hk h1]
 cases l[k].names s with
 | none => rfl
 | some b =>
   simp only [Option.bind_some, Bnd.binds_app, h3]
   cases s1'.binds b <;> rfl
theorem bndL_stop (s : Sig) {l : List CPat} {k : Nat} {st : Bnd} (h : bndL s (l.take k) st = none) : bndL s l st = none := by
 rw [← List.take_append_drop k l]
 generalize l.take k = x at h ⊢
 unfold bndL at h ⊢
 rw [namesL_app]
 cases hx : CPat.namesL s x with
 | none => rfl
 | some a =>
   simp only [hx, Option.bind_some] at h
   cases CPat.namesL s (l.drop k) with
   | none => rfl
   | some b =>
     have h0 : st.binds a = none := by
      cases hb : st.binds a with
      | none => rfl
      | some y => rw [hb] at h; cases h
     simp only [Option.bind_some, Bnd.binds_app, h0]; rfl
theorem bndL_len (s : Sig) {l : List CPat} {st s1 : Bnd} {a : List Int} (h : bndL s l st = some (a, s1)) : a.length ≤ CPat.sizes l := by
 unfold bndL at h
 rw [Option.bind_eq_some_iff] at h
 obtain ⟨a', h1, h2⟩ := h
 rw [Option.map_eq_some_iff] at h2
 obtain ⟨_, _, h4⟩ := h2
 injection h4 with h5 h6
 subst h5
 exact namesL_len s l _ h1
theorem sizes_step (l : List CPat) (k : Nat) (h : k < l.length) : CPat.sizes (l.take k) + l[k].size ≤ CPat.sizes l := by
 induction l generalizing k with
 | nil => simp at h
 | cons t r ih =>
   cases k with
   | zero => simp [CPat.sizes]
   | succ k =>
     simp only [List.take_succ_cons, CPat.sizes, List.getElem_cons_succ]
     have := ih k (by simpa using h); omega
end CPat
theorem Kept.grown {X : Nat → Prop} {w v v' : World} {row : Option Nat} (h : Kept X w v) (g : v.grownBy v' row) (hr : ∀ k, row = some k → w.heap.size ≤ k ∨ X k) : Kept X w v' :=
 ⟨g.os.trans h.os, g.tape.trans h.tape, g.output.trans h.output, Nat.le_trans h.size g.size, fun k hk hx => (g.block k (Nat.lt_of_lt_of_le hk h.size) (fun e => by
   rcases hr k e.symm with h1 | h1
   ·omega
   ·exact hx h1)).trans (h.block k hk hx)⟩
def Xq (bb hb pb : Nat) (V : Value) : Nat → Prop := fun k => k = bb ∨ k = hb ∨ k = pb ∨ V.ownBlock = some k
structure RowAt (w : World) (pb : Nat) (V : Value) (acc : List Int) : Prop where
 var : Blk w pb #[V] 53
 own : w.ownsRow (pb + 1) 3 1 V acc.length (i64s acc)
theorem RowAt.below {w w' : World} {pb : Nat} {V : Value} {acc : List Int} (h : RowAt w pb V acc) (hb : Below w.heap.size w w') : RowAt w' pb V acc := ⟨h.var.below hb h.var.lt, own_below h.own hb (Nat.le_refl _)⟩
def Vr (w : World) (pb : Nat) : Prop := ∃ a m c, Blk w pb #[.slice a m c] 53
theorem RowAt.vr {w : World} {pb : Nat} {V : Value} {acc : List Int} (h : RowAt w pb V acc) : Vr w pb := by
 obtain ⟨a, c, rfl⟩ := own_slice h.own
 exact ⟨a, _, c, h.var⟩
def RPat (o : Option (List Int × Bnd)) (acc : List Int) (bb hb pb n : Nat) (V : Value) (w : World) (e : Ending) (w' : World) : Prop :=
 e = .returned (.bool o.isSome) ∧ Kept (Xq bb hb pb V) w w' ∧ (∃ st2, Holds w' bb hb 4 st2 ∧ st2.Of n ∧ Vr w' pb) ∧
   ∀ l s, o = some (l, s) → Holds w' bb hb 4 s ∧ s.Of n ∧ ∃ V', RowAt w' pb V' (acc ++ l) ∧ ∀ k, V'.ownBlock = some k → V.ownBlock = some k ∨ w.heap.size ≤ k
theorem rpatNone {acc : List Int} {bb hb pb n : Nat} {V : Value} {w w' : World} {st : Bnd} (hk : Kept (Xq bb hb pb V) w w') (hh : Holds w' bb hb 4 st) (ho : st.Of n) (hv : Vr w' pb) : RPat none acc bb hb pb n V w (.returned (.bool false)) w' :=
 ⟨rfl, hk, ⟨st, hh, ho, hv⟩, fun _ _ h => by cases h⟩
theorem rpatSome {acc l : List Int} {bb hb pb n : Nat} {V V' : Value} {w w' : World} {st : Bnd} (hk : Kept (Xq bb hb pb V) w w') (hh : Holds w' bb hb 4 st) (ho : st.Of n) (hr : RowAt w' pb V' (acc ++ l)) (hV : ∀ k, V'.ownBlock = some k → V.ownBlock = some k ∨ w.heap.size ≤ k) :
  RPat (some (l, st)) acc bb hb pb n V w (.returned (.bool true)) w' :=
 ⟨rfl, hk, ⟨st, hh, ho, hr.vr⟩, fun _ _ h => by injection h with h; injection h with h1 h2; subst h1 h2; exact ⟨hh, ho, V', hr, hV⟩⟩
structure Put1 (w wx : World) (pb : Nat) (V : Value) (acc : List Int) : Prop where
 kept : Kept (fun k => k = pb ∨ V.ownBlock = some k) w wx
 row : ∃ V', RowAt wx pb V' acc ∧ ∀ k, V'.ownBlock = some k → V.ownBlock = some k ∨ w.heap.size ≤ k
theorem put1_of {w W0 W1 w1 : World} {pb g cap : Nat} {V : Value} {acc : List Int} {z : Int} (hb : Below w.heap.size w W0) (hr : RowAt w pb V acc) (hW : W1.heap = (W0.alloc (.cells #[.int .i64 z] 3)).heap) (h1 : W1.os = W0.os) (h2 : W1.tape = W0.tape) (h3 : W1.output = W0.output)
  (hown : w1.ownsRow (pb + 1) 3 1 (.slice (some ⟨g, 0, none⟩) (acc.length + 1) cap) (acc.length + 1) (i64s acc ++ [.int .i64 z])) (hgrow : W1.grownBy w1 V.ownBlock) (hat : V.ownBlock = some g ∨ g = W0.heap.size + 1) :
  Put1 w (w1.setCell ⟨pb, 0, none⟩ (.slice (some ⟨g, 0, none⟩) (acc.length + 1) cap)) pb V (acc ++ [z]) := by
 have hpw := hr.var.lt
 have hsz := hb.size
 have hW1 : Below W0.heap.size W0 W1 := ⟨h1, h2, h3, by rw [hW]; simp, fun k hk => by rw [hW]; exact Below.heap_alloc _ _ _ hk⟩
 have hb1 : Below w.heap.size w W1 := hb.trans (hW1.mono hsz)
 have hk1 : Kept (fun k => k = pb ∨ V.ownBlock = some k) w w1 := (Kept.of_below hb1).grown hgrow fun k e => .inr (.inr e)
 have hpb1 : V.ownBlock ≠ some pb := fun e => by have := (hr.own.lt pb e).1; omega
 have hvar : Blk w1 pb #[V] 53 := (hr.var.below hb1 hpw).of (hgrow.block pb (by have := hb1.size; omega) (fun e => hpb1 e.symm))
 refine ⟨hk1.setX (.inl rfl) _, .slice (some ⟨g, 0, none⟩) (acc.length + 1) cap, ⟨?_, ?_⟩, ?_⟩
 ·have := hvar.set 0 (.slice (some ⟨g, 0, none⟩) (acc.length + 1) cap)
  simpa using this
 ·have hg := (hown.lt g rfl).1
  have h5 := own_keep (w' := w1.setCell ⟨pb, 0, none⟩ (.slice (some ⟨g, 0, none⟩) (acc.length + 1) cap)) hown fun q hq => by
   injection hq with hq; subst hq
   exact heap_setCell_other w1 _ _ _ (by show g ≠ pb; omega)
  rw [List.length_append, i64s, List.map_append]
  exact h5
 ·intro k e
  injection e with e; subst e
  rcases hat with h | rfl
  ·exact .inl h
  ·exact .inr (by show w.heap.size ≤ W0.heap.size + 1; omega)
end Go.Proofs.YtdhodaefgliphaaGreatDoor
namespace Go.Proofs.YtdhodaefgliphaaGreatDoor
open Go.RowKit
theorem Kept.trans2 {X Y : Nat → Prop} {u v w : World} (h : Kept X u v) (k : Kept Y v w) (hy : ∀ q, q < u.heap.size → Y q → X q) : Kept X u w :=
 ⟨k.os.trans h.os, k.tape.trans h.tape, k.output.trans h.output, Nat.le_trans h.size k.size, fun i hi hx => (k.block i (Nat.lt_of_lt_of_le hi h.size) fun e => hx (hy i hi e)).trans (h.block i hi hx)⟩
theorem RowAt.kept {X : Nat → Prop} {w w' : World} {pb : Nat} {V : Value} {acc : List Int} (h : RowAt w pb V acc) (k : Kept X w w') (h1 : ∀ q, pb ≤ q → ¬ X q) : RowAt w' pb V acc :=
 ⟨k.blk h.var (h1 pb (Nat.le_refl _)), own_keep h.own fun g hg => k.block g (h.own.lt g hg).2 (h1 g (by have := (h.own.lt g hg).1; omega))⟩
structure RInv (s : Sig) (p : CPat) (l : List CPat) (st : Bnd) (acc : List Int) (V : Value) (bb hb pb n : Nat) (box : Array Value) (t : TypeId) (has : Bool) (w wr : World) (k : Nat) (ok : Bool) : Prop where
 kept : Kept (Xq bb hb pb V) w wr
 box : Blk wr w.heap.size box t
 got : (ok = true ∧ has = true ∧ ∃ a s1 V', CPat.bndL s (l.take k) st = some (a, s1) ∧ Holds wr bb hb 4 s1 ∧ s1.Of n ∧ RowAt wr pb V' (acc ++ a) ∧ ∀ q, V'.ownBlock = some q → V.ownBlock = some q ∨ w.heap.size + 1 ≤ q) ∨ (ok = false ∧ p.bnd s st = none ∧ ∃ st2, Holds wr bb hb 4 st2 ∧ st2.Of n ∧ Vr wr pb)
set_option maxRecDepth 100000 in
set_option maxHeartbeats 4000000 in
theorem rpat_any (s : Sig) (kb bb hb pb n B : Nat) (dv cv tv : Value) (vars tops : Int) (hl : s.cons.length ≤ 1048576) (hf : ∀ i (h : i < s.cons.length), s.cons[i].fields.length ≤ 1048576)
  (hbt : bb ≠ hb) (hkb : kb ≠ bb) (hkh : kb ≠ hb) (hp1 : bb < pb) (hp2 : hb < pb) (hp3 : kb < pb) (hB1 : B ≤ bb) (hB2 : B ≤ hb) (hn : n ≤ 1048576) :
  ∀ (N : Nat) (p : CPat) (us : List Value) (w : World) (st : Bnd) (acc : List Int) (V : Value), p.size ≤ N → acc.length + p.size ≤ 1048576 → Blk w kb (bndC dv cv tv vars tops bb hb n) 64 → Holds w bb hb 4 st → st.Of n →
    Rd w B cv (.list 4 s.cons.length (s.cons.flatMap Con.d)) → Rds w B us p.d → RowAt w pb V acc →
    Calls Tryz.prog 53 #[.pointer (some ⟨kb, 0, none⟩), .agg us.toArray, .pointer (some ⟨pb, 0, none⟩)] w (RPat (p.bnd s st) acc bb hb pb n V w) := by
 intro N
 induction N with
 | zero => intro p us w st acc V h; have := p.size_pos; omega
 | succ N ih =>
   intro p us w st acc V hN hsz hk hh ho hr hus hrow
   have IH := Lib.hid ih
   have HN := Lib.hid (CPat.names_eq s p)
   have HH := Lib.hid hh
   have HO := Lib.hid ho
   have HR := Lib.hid hrow
   have HC := Lib.hid hr
   have HK := Lib.hid hk
   have hpw := hrow.var.lt
   have hse := p.size_eq
   have hlen : p.l.length ≤ 1048576 := by have := CPat.sizes_len p.l; omega
   obtain ⟨v7, rfl, h7, -⟩ := CPat.cells hus
   have H7 := Lib.hid h7
   obtain ⟨a7, c7, rfl⟩ := h7.slice_inv
   clear ih hus h7 hh ho hrow hr hk
   obtain ⟨pk, hpk⟩ : ∃ x, p.kind = x := ⟨_, rfl⟩
   obtain ⟨pn, hpn⟩ : ∃ x, p.n = x := ⟨_, rfl⟩
   obtain ⟨l, hpl⟩ : ∃ x, p.l = x := ⟨_, rfl⟩
   rw [hpk, hpn, hpl] at HN
   rw [hpl] at H7 hlen hse
   by_cases g1 : pk < 1
   ·have t1 : decide (pk < 1) = true := decide_eq_true g1
    have HE := Lib.hid (CPat.bnd_none (st := st) ((by rw [HN.out]; simp [show pk ≠ 1 by omega, show pk ≠ 2 by omega, show pk ≠ 3 by omega, show pk ≠ 4 by omega, show pk ≠ 5 by omega]) : p.names s = none))
    simp only [hpk, hpn, hpl]
    clear hpk hpn hpl hse hsz hN IH H7
    go_enter Tryz.func53, Tryz.ntmps53
    go_wp2
    go_ret
    rw [HE.out]
    exact rpatNone (by (repeat (with_reducible first | exact Kept.refl _ _ | refine Kept.setNew ?_ ?_ _ | refine Kept.alloc ?_ _ | refine Kept.drewN ?_ _ | refine Kept.drew ?_)) <;> first | omega | (simp; omega) | (simp; done)) (HH.out.below (by (repeat (with_reducible first | exact Below.refl _ _ | refine Below.setCell ?_ ?_ _ | refine Below.alloc ?_ ?_ _ | refine Below.drewN ?_ _ | refine Below.drew ?_)) <;> first | omega | (simp; omega) | (simp; done))) HO.out (HR.out.below (by (repeat (with_reducible first | exact Below.refl _ _ | refine Below.setCell ?_ ?_ _ | refine Below.alloc ?_ ?_ _ | refine Below.drewN ?_ _ | refine Below.drew ?_)) <;> first | omega | (simp; omega) | (simp; done))).vr
   by_cases g5 : 5 < pk
   ·have t1 : decide (pk < 1) = false := decide_eq_false g1
    have t2 : decide (5 < pk) = true := decide_eq_true g5
    have HE := Lib.hid (CPat.bnd_none (st := st) ((by rw [HN.out]; simp [show pk ≠ 1 by omega, show pk ≠ 2 by omega, show pk ≠ 3 by omega, show pk ≠ 4 by omega, show pk ≠ 5 by omega]) : p.names s = none))
    simp only [hpk, hpn, hpl]
    clear hpk hpn hpl hse hsz hN IH H7
    go_enter Tryz.func53, Tryz.ntmps53
    go_wp2
    go_ret
    rw [HE.out]
    exact rpatNone (by (repeat (with_reducible first | exact Kept.refl _ _ | refine Kept.setNew ?_ ?_ _ | refine Kept.alloc ?_ _ | refine Kept.drewN ?_ _ | refine Kept.drew ?_)) <;> first | omega | (simp; omega) | (simp; done)) (HH.out.below (by (repeat (with_reducible first | exact Below.refl _ _ | refine Below.setCell ?_ ?_ _ | refine Below.alloc ?_ ?_ _ | refine Below.drewN ?_ _ | refine Below.drew ?_)) <;> first | omega | (simp; omega) | (simp; done))) HO.out (HR.out.below (by (repeat (with_reducible first | exact Below.refl _ _ | refine Below.setCell ?_ ?_ _ | refine Below.alloc ?_ ?_ _ | refine Below.drewN ?_ _ | refine Below.drew ?_)) <;> first | omega | (simp; omega) | (simp; done))).vr
   by_cases k5 : pk = 5
   ·subst k5
    have HE := Lib.hid (CPat.bnd_five (st := st) (l := l) (n := pn) (show p.names s = _ by rw [HN.out]; simp))
    have hss : CPat.sizes l + 1 ≤ p.size := by omega
    simp only [hpk, hpn, hpl]
    clear hpk hpn hpl hse HN
    go_enter Tryz.func53, Tryz.ntmps53
    go_upto_region 8 with fail
    obtain ⟨box, hbox⟩ : ∃ b : Array Value, #[.int .u8 5, .int .i64 pn, .int .i64 p.i, .string p.s, .int .i64 p.at_, .int .i64 p.line, .int .i64 p.col, .slice a7 l.length c7] = b := ⟨_, rfl⟩
    have hb1 : box[1]? = some (.int .i64 pn) := by rw [← hbox]; rfl
    have hb7 : box[7]? = some (.slice a7 l.length c7) := by rw [← hbox]; rfl
    obtain ⟨W0, hW0⟩ : ∃ W, w.alloc (.cells box 49) = W := ⟨_, rfl⟩
    have hb0 : Below w.heap.size w W0 := by rw [← hW0]; exact (Below.refl _ _).alloc (Nat.le_refl _) _
    have hs0 : Hid (W0.heap.size = w.heap.size + 1) := Lib.hid (by rw [← hW0]; simp)
    have hx0 : Blk W0 w.heap.size box 49 := by rw [← hW0]; exact Blk.new _ _ _ _ rfl
    try simp only [List.length_nil]
    try rw [show ((0 : Nat) : Int) = 0 from rfl]
    rw [hbox, hW0]
    have HR0 := Lib.hid (HR.out.below hb0)
    have hpw0 : pb < W0.heap.size ∧ w.heap.size < W0.heap.size := by have := hs0.out; omega
    have hbB : Below B w W0 := hb0.mono (by omega)
    have p1 : W0.cell? ⟨w.heap.size, 1, none⟩ = some (.int .i64 pn) := (hx0.cell 1).trans hb1
    have p7 : W0.cell? ⟨w.heap.size, 7, none⟩ = some (.slice a7 l.length c7) := (hx0.cell 7).trans hb7
    have pk1 : W0.cell? ⟨kb, 1, none⟩ = some cv := (((HK.out.below hb0 HK.out.lt).cell 1).trans rfl)
    clear hbox hW0
    go_cut [7] (fun q wx => q = .bool (s.has pn l.length) ∧ Below W0.heap.size W0 wx)
    case first =>
     by_cases n0 : 0 ≤ pn
     ·obtain ⟨i, rfl⟩ := Int.eq_ofNat_of_zero_le n0
      have e0 : decide ((0 : Int) ≤ (i : Int)) = true := decide_eq_true (by omega)
      by_cases hlt : i < s.cons.length
      ·obtain ⟨b, off, cap', us, hv, hbl, hc, hcell, hus⟩ := HC.out.elem Con.d_len rfl i hlt (by omega)
       subst hv
       obtain ⟨v2, v3, rfl, g0, g1, g2, g3⟩ := Con.cells hus
       obtain ⟨a2, c2, rfl⟩ := g2.slice_inv
       have c2 := (hbB.cell (p := ⟨b, off + i * 4 + 2, none⟩) hbl).trans (hcell 2 _ rfl)
       have e1 : decide ((i : Int) < (s.cons.length : Int)) = true := decide_eq_true (by omega)
       have hhe := has_eq (s := s) (m := l.length) hlt
       obtain ⟨L, hL⟩ : ∃ L, (s.cons[i]).fields.length = L := ⟨_, rfl⟩
       rw [hL] at hhe c2
       have HF := Lib.hid hhe
       have i1 : (i : Int) < (s.cons.length : Int) := by omega
       have i0 : (0 : Int) ≤ (i : Int) := by omega
       clear hcell hus g0 g1 g2 g3 hL hhe
       go_quiet (fail)
       go_wp2_with fail
       go_meet
       refine ⟨?_, by (repeat (with_reducible first | exact Below.refl _ _ | refine Below.setCell ?_ ?_ _ | refine Below.alloc ?_ ?_ _ | refine Below.drewN ?_ _ | refine Below.drew ?_)) <;> first | omega | (simp; omega) | (simp; done)⟩
       rw [HF.out]; exact congrArg Value.bool (nat_beq L l.length)
      ·have e1 : decide ((i : Int) < (s.cons.length : Int)) = false := decide_eq_false (by omega)
       have HF := Lib.hid (has_no (s := s) (con := i) (m := l.length) (by omega))
       obtain ⟨a, cap, rfl⟩ := HC.out.slice_inv
       go_quiet (fail)
       go_wp2_with fail
       go_meet
       exact ⟨by rw [HF.out], by (repeat (with_reducible first | exact Below.refl _ _ | refine Below.setCell ?_ ?_ _ | refine Below.alloc ?_ ?_ _ | refine Below.drewN ?_ _ | refine Below.drew ?_)) <;> first | omega | (simp; omega) | (simp; done)⟩
     ·have e0 : decide ((0 : Int) ≤ pn) = false := decide_eq_false (by omega)
      have HF := Lib.hid (has_no (s := s) (con := pn) (m := l.length) (by omega))
      go_quiet (fail)
      go_wp2_with fail
      go_meet
      exact ⟨by rw [HF.out], by (repeat (with_reducible first | exact Below.refl _ _ | refine Below.setCell ?_ ?_ _ | refine Below.alloc ?_ ?_ _ | refine Below.drewN ?_ _ | refine Below.drew ?_)) <;> first | omega | (simp; omega) | (simp; done)⟩
    case rest =>
     obtain ⟨rfl, hbc⟩ := hcut
     have hkc : Kept (Xq bb hb pb V) w wc := ((Kept.refl _ w).below hb0).trans (.of_below hbc)
     have hxc : Blk wc w.heap.size box 49 := hx0.below hbc hx0.lt
     have hbwc : Below w.heap.size w wc := hb0.trans (hbc.mono (by omega))
     obtain ⟨q, hq⟩ : ∃ q, s.has pn l.length = q := ⟨_, rfl⟩
     rw [hq] at HE ⊢
     have nW : V.ownBlock ≠ some w.heap.size := fun e => by have := (HR.out.own.lt _ e).2; omega
     have hVp := fun k (e : V.ownBlock = some k) => HR.out.own.lt k e
     have hst : RInv s p l st acc V bb hb pb n box 49 q w wc 0 q := by
      refine ⟨hkc, hxc, ?_⟩
      cases q
      ·exact .inr ⟨rfl, by rw [HE.out]; simp, st, HH.out.below hbwc, HO.out, (HR.out.below hbwc).vr⟩
      ·exact .inl ⟨rfl, rfl, [], st, V, rfl, HH.out.below hbwc, HO.out, by rw [List.append_nil]; exact HR.out.below hbwc, fun k e => .inl e⟩
     have HST := Lib.hid hst
     clear hst hkc hxc hbwc hbc p1 p7 pk1 hbB hq hx0
     go_wp2_with fail
     go_loopw [8, 7] (fun u u7 wr => ∃ (k : Nat) (ok : Bool), k ≤ l.length ∧ u = .int .i64 k ∧ u7 = .bool ok ∧ Hid (RInv s p l st acc V bb hb pb n box 49 q w wr k ok)) (fun u _ _ => l.length - (intOf u).toNat)
     case atStart => exact ⟨0, q, Nat.zero_le _, rfl, rfl, HST⟩
     case round =>
      obtain ⟨k, ok, hkl, rfl, rfl, HI⟩ := hrel
      obtain ⟨hbel, hbx, hgot⟩ := HI.out
      have hsz1 := hbel.size
      have hwr := hbx.lt
      have x7 : wr.cell? ⟨w.heap.size, 7, none⟩ = some (.slice a7 l.length c7) := (hbx.cell 7).trans hb7
      rcases hgot with ⟨rfl, rfl, a, s1, V', hA, hh1, ho1, hr1, hV1⟩ | ⟨rfl, hO, st2, hh2, ho2, hv2⟩
      ·by_cases hlt : k < l.length
       ·have e1 : decide ((k : Int) < (l.length : Int)) = true := decide_eq_true (by omega)
        have hlow : Below B w wr := hbel.low (by rintro x (rfl | rfl | rfl | h); omega; omega; omega; have := (hVp _ h).1; omega) (by omega)
        obtain ⟨b, off, cap', us, hv, hblt, hc, hcell, hus⟩ := H7.out.elem CPat.d_len rfl k hlt (by omega)
        injection hv with ha hn' hcap
        subst ha hcap
        obtain ⟨v7', hus', h7', -⟩ := CPat.cells hus
        obtain ⟨a7', c7', rfl⟩ := h7'.slice_inv
        subst hus'
        have c0 := (hlow.cell (p := ⟨b, off + k * 8, none⟩) hblt).trans (hcell 0 _ rfl)
        have c1 := (hlow.cell (p := ⟨b, off + k * 8 + 1, none⟩) hblt).trans (hcell 1 _ rfl)
        have c2 := (hlow.cell (p := ⟨b, off + k * 8 + 2, none⟩) hblt).trans (hcell 2 _ rfl)
        have c3 := (hlow.cell (p := ⟨b, off + k * 8 + 3, none⟩) hblt).trans (hcell 3 _ rfl)
        have c4 := (hlow.cell (p := ⟨b, off + k * 8 + 4, none⟩) hblt).trans (hcell 4 _ rfl)
        have c5 := (hlow.cell (p := ⟨b, off + k * 8 + 5, none⟩) hblt).trans (hcell 5 _ rfl)
        have c6 := (hlow.cell (p := ⟨b, off + k * 8 + 6, none⟩) hblt).trans (hcell 6 _ rfl)
        have cc7 := (hlow.cell (p := ⟨b, off + k * 8 + 7, none⟩) hblt).trans (hcell 7 _ rfl)
        have hsub := CPat.sizes_step l k hlt
        have hal := CPat.bndL_len s hA
        have hX' : ∀ x, x < w.heap.size → Xq bb hb pb V' x → Xq bb hb pb V x := by
         rintro x hx (h | h | h | h)
         ·exact .inl h
         ·exact .inr (.inl h)
         ·exact .inr (.inr (.inl h))
         ·rcases hV1 x h with h | h
          ·exact .inr (.inr (.inr h))
          ·omega
        have hkw : Blk wr kb (bndC dv cv tv vars tops bb hb n) 64 := hbel.blk HK.out (by rintro (h | h | h | h); exact hkb h; exact hkh h; omega; exact absurd (hVp _ h).1 (by omega))
        have hcall := IH.out l[k] _ wr s1 (acc ++ a) V' (by omega) (by rw [List.length_append]; omega) hkw hh1 ho1 (HC.out.keep hlow) (hus.keep hlow) hr1
        have HCA := Lib.hid (hcall.mono fun e w' (h : RPat (l[k].bnd s s1) (acc ++ a) bb hb pb n V' wr e w') => (⟨h, hbel.trans2 h.2.1 hX', h.2.1.blk hbx (by
          rintro (h | h | h | h)
          ·omega
          ·omega
          ·omega
          ·rcases hV1 _ h with h | h
           ·exact nW h
           ·omega)⟩ : RPat (l[k].bnd s s1) (acc ++ a) bb hb pb n V' wr e w' ∧ Kept (Xq bb hb pb V) w w' ∧ Blk w' w.heap.size box 49))
        have HT := Lib.hid (CPat.bndL_take s hlt hA)
        have HV1 := Lib.hid hV1
        have HS := Lib.hid (CPat.bndL_stop (s := s) (l := l) (k := k + 1) (st := st))
        clear hcell hus hcall hkw hal hsub h7' hA hh1 ho1 hr1 hV1 hX' hlow hbx
        go_wp2_with fail
        refine HCA.out.mono ?_
        rintro e w2 ⟨⟨rfl, -, ⟨st2, hh2, ho2, hv2⟩, hsome⟩, hkw2, hbx2⟩
        cases hnm : l[k].bnd s s1 with
        | none =>
          rw [hnm] at HT
          have HI2 := Lib.hid (show RInv s p l st acc V bb hb pb n box 49 true w w2 (k + 1) false from ⟨hkw2, hbx2, .inr ⟨rfl, by rw [HE.out, if_pos trivial]; exact HS.out HT.out, st2, hh2, ho2, hv2⟩⟩)
          clear hsome hnm hkw2 hbx2 hh2 ho2 hv2
          go_wp2
          go_roundw
          case rel => exact ⟨k + 1, false, hlt, by go_num, rfl, HI2⟩
          case measure => simp [intOf]; omega
        | some y =>
          obtain ⟨b2, s2⟩ := y
          rw [hnm] at HT
          obtain ⟨f1, f2, V2, f3, f4⟩ := hsome b2 s2 hnm
          have HI2 := Lib.hid (show RInv s p l st acc V bb hb pb n box 49 true w w2 (k + 1) true from ⟨hkw2, hbx2, .inl ⟨rfl, rfl, a ++ b2, s2, V2, HT.out, f1, f2, by rw [← List.append_assoc]; exact f3, fun q hq => by
           rcases f4 q hq with h | h
           ·exact HV1.out q h
           ·exact .inr (by omega)⟩⟩)
          clear hsome hnm hkw2 hbx2 hh2 ho2 hv2 f1 f2 f3 f4
          go_wp2
          go_roundw
          case rel => exact ⟨k + 1, true, hlt, by go_num, rfl, HI2⟩
          case measure => simp [intOf]; omega
       ·have e1 : decide ((k : Int) < (l.length : Int)) = false := decide_eq_false (by omega)
        have hall : CPat.bndL s l st = some (a, s1) := by rwa [List.take_of_length_le (by omega)] at hA
        have HFIN := Lib.hid (rpatSome hbel hh1 ho1 hr1 (fun k e => (hV1 k e).imp id (by omega)))
        have HALL := Lib.hid hall
        clear hall hA hh1 ho1 hr1 hV1 hbel hbx
        go_wp2
        go_ret
        rw [HE.out, if_pos trivial, HALL.out]
        exact HFIN.out
      ·have HFIN := Lib.hid (rpatNone (acc := acc) hbel hh2 ho2 hv2)
       have HOO := Lib.hid hO
       clear hO hh2 ho2 hv2 hbel hbx
       by_cases hlt : k < l.length
       ·have e1 : decide ((k : Int) < (l.length : Int)) = true := decide_eq_true (by omega)
        go_wp2
        go_ret
        rw [HOO.out]
        exact HFIN.out
       ·have e1 : decide ((k : Int) < (l.length : Int)) = false := decide_eq_false (by omega)
        go_wp2
        go_ret
        rw [HOO.out]
        exact HFIN.out
   ·have t1 : decide (pk < 1) = false := decide_eq_false g1
    have t2 : decide (5 < pk) = false := decide_eq_false g5
    have t3 : (pk != 5) = true := by simpa using k5
    by_cases h0 : l.length = 0
    ·obtain rfl := List.eq_nil_of_length_eq_zero h0
     by_cases k1 : pk = 1
     ·subst k1
      have HE := Lib.hid ((CPat.bnd_some (st := st) (l := [pn]) (show p.names s = some [pn] by rw [HN.out]; simp)).trans (show _ = (st.bind pn).map fun x => ([pn], x) by simp only [Bnd.binds]; cases st.bind pn <;> rfl))
      have hac : acc.length + 1 ≤ 1048576 := by have := p.size_pos; omega
      simp only [hpk, hpn, hpl]
      clear hpk hpn hpl hse hsz hN IH H7 HN
      obtain ⟨i0, hi0, hz0, hz1, hz2⟩ := info_parts infoI
      go_enter Tryz.func53, Tryz.ntmps53
      go_upto_region 4 with fail
      obtain ⟨box, hbox⟩ : ∃ b : Array Value, #[.int .u8 1, .int .i64 pn, .int .i64 p.i, .string p.s, .int .i64 p.at_, .int .i64 p.line, .int .i64 p.col, .slice a7 0 c7] = b := ⟨_, rfl⟩
      have hb1 : box[1]? = some (.int .i64 pn) := by rw [← hbox]; rfl
      have hb7 : box[7]? = some (.slice a7 0 c7) := by rw [← hbox]; rfl
      obtain ⟨W0, hW0⟩ : ∃ W, w.alloc (.cells box 49) = W := ⟨_, rfl⟩
      have hb0 : Below w.heap.size w W0 := by rw [← hW0]; exact (Below.refl _ _).alloc (Nat.le_refl _) _
      have hs0 : Hid (W0.heap.size = w.heap.size + 1) := Lib.hid (by rw [← hW0]; simp)
      have hx0 : Blk W0 w.heap.size box 49 := by rw [← hW0]; exact Blk.new _ _ _ _ rfl
      try simp only [List.length_nil]
      try rw [show ((0 : Nat) : Int) = 0 from rfl]
      rw [hbox, hW0]
      have HR0 := Lib.hid (HR.out.below hb0)
      have hpw0 : pb < W0.heap.size ∧ w.heap.size < W0.heap.size := by have := hs0.out; omega
      have p1 : W0.cell? ⟨w.heap.size, 1, none⟩ = some (.int .i64 pn) := (hx0.cell 1).trans hb1
      have xa : ∀ o, ((W0.alloc o).drew).cell? ⟨pb, 0, none⟩ = some V := fun o => (Blk.drew (HR0.out.var.alloc o)).cell 0
      have pa : ∀ o, ((W0.alloc o).drew).cell? ⟨w.heap.size, 1, none⟩ = some (.int .i64 pn) := fun o => ((Blk.drew (hx0.alloc o)).cell 1).trans hb1
      have x0 : W0.cell? ⟨pb, 0, none⟩ = some V := HR0.out.var.cell 0
      have za : ∀ o, ((W0.alloc o).drew).frozen? ⟨pb, 0, none⟩ = false := fun o => (Blk.drew (HR0.out.var.alloc o)).free 0
      have nV : V.ownBlock ≠ some pb := fun e => by have := (HR.out.own.lt pb e).1; omega
      have nW : V.ownBlock ≠ some w.heap.size := fun e => by have := (HR.out.own.lt _ e).2; omega
      have xs : W0.frozen? ⟨pb, 0, none⟩ = false := HR0.out.var.free 0
      clear hbox hW0
      go_cut [] (fun wx => Put1 W0 wx pb V (acc ++ [pn]))
      case first =>
       go_region_law
        ((refine step_append_lies _ (by rfl) _ _ _ (by rfl) (pb + 1) 3 i0 _ 1 8 Tryz.underlying53 hi0 hz0 hz1 hz2 rfl (by omega) V _ _ (by rfl) ((HR0.out.own.alloc _).drew)
            ⟨W0.heap.size, 0, none⟩ 1 1 [.int .i64 pn] (by rfl) (by rfl) (World.news_of_block (cs := #[.int .i64 pn]) (t := 3) (fr := (0, 0)) (heap_alloc_new W0 _)) (by simp [Value.oneCell'])
            (by omega) (by unfold maxLen; omega) (by omega) (by simp; omega) (W0.heap.size + 1) (by simp) ?_
          intro gg cap w1 hown1 hgrow hat hlt1
          have q2 : w1.cell? ⟨pb, 0, none⟩ = some V := (hgrow.cell_far _ (by simp; omega) (Ne.symm nV)).trans (xa _)
          have q1 : w1.cell? ⟨w.heap.size, 1, none⟩ = some (.int .i64 pn) := (hgrow.cell_far _ (by simp; omega) (Ne.symm nW)).trans (pa _)
          have q3 : w1.frozen? ⟨pb, 0, none⟩ = false := (hgrow.frozen_far _ (by simp; omega) (Ne.symm nV)).trans (za _)))
       all_goals
        go_wp2_with fail
        go_meet
        refine put1_of (W1 := (W0.alloc _).drew) (Below.refl _ _) HR0.out rfl rfl rfl rfl ‹_› ‹_› ‹_›
      case rest =>
       have hxc : Blk wc w.heap.size box 49 := hcut.kept.blk hx0 (by rintro (h | h); omega; exact nW h)
       have hkc : Blk wc kb (bndC dv cv tv vars tops bb hb n) 64 := hcut.kept.blk (HK.out.below hb0 HK.out.lt) (by rintro (h | h); omega; exact absurd (HR.out.own.lt _ h).1 (by omega))
       have hhc : Holds wc bb hb 4 st := (HH.out.below hb0).kept hcut.kept (by rintro (h | h); omega; exact absurd (HR.out.own.lt _ h).1 (by omega)) (by rintro (h | h); omega; exact absurd (HR.out.own.lt _ h).1 (by omega))
       have HCUT := Lib.hid hcut
       have r1 : wc.cell? ⟨w.heap.size, 1, none⟩ = some (.int .i64 pn) := (hxc.cell 1).trans hb1
       clear p1 xa pa x0 za xs hcut
       go_wp2_with fail
       refine (rbind_any pn kb bb hb n dv cv tv vars tops st _ hbt hkb hkh hkc hhc HO.out hn).mono ?_
       rintro e w2 ⟨rfl, hk2, st2, hh2, ho2, hs2⟩
       have hkw : Kept (Xq bb hb pb V) w w2 := by
        refine Kept.trans2 (Kept.trans2 (Kept.refl _ w |>.below hb0) HCUT.out.kept (fun q _ h => ?_)) hk2 (fun q _ h => ?_)
        ·rcases h with h | h
         ·exact .inr (.inr (.inl h))
         ·exact .inr (.inr (.inr h))
        ·rcases h with h | h
         ·exact .inl h
         ·exact .inr (.inl h)
       have HK2 := Lib.hid hk2
       have HKW := Lib.hid hkw
       have HH2 := Lib.hid hh2
       have HO2 := Lib.hid ho2
       have HS2 := Lib.hid hs2
       clear hk2 hkw hh2 ho2 hs2
       cases hbnd : st.bind pn with
       | none =>
         have HB := Lib.hid hbnd
         clear hbnd
         go_wp2
         go_ret
         rw [HE.out, HB.out]
         obtain ⟨V', h1, h2⟩ := HCUT.out.row
         exact rpatNone HKW.out HH2.out HO2.out (h1.kept HK2.out (by rintro q hq (h | h) <;> omega)).vr
       | some s1 =>
         obtain rfl := HS2.out s1 hbnd
         have HB := Lib.hid hbnd
         clear hbnd
         go_wp2
         go_ret
         rw [HE.out, HB.out]
         obtain ⟨V', h1, h2⟩ := HCUT.out.row
         refine rpatSome HKW.out HH2.out HO2.out (h1.kept HK2.out ?_) ?_
         ·rintro q hq (h | h) <;> omega
         ·intro q hq
          rcases h2 q hq with h | h
          ·exact .inl h
          ·exact .inr (by omega)
     by_cases k2 : pk = 2
     ·subst k2
      have HE := Lib.hid ((CPat.bnd_some (st := st) (l := []) (show p.names s = some [] by rw [HN.out]; simp [h0])).trans (show _ = some ([], st) from rfl))
      simp only [hpk, hpn, hpl]
      clear hpk hpn hpl hse hsz hN IH H7
      rw [h0]
      go_enter Tryz.func53, Tryz.ntmps53
      go_wp2
      go_ret
      rw [HE.out]
      exact rpatSome (by (repeat (with_reducible first | exact Kept.refl _ _ | refine Kept.setNew ?_ ?_ _ | refine Kept.alloc ?_ _ | refine Kept.drewN ?_ _ | refine Kept.drew ?_)) <;> first | omega | (simp; omega) | (simp; done)) (HH.out.below (by (repeat (with_reducible first | exact Below.refl _ _ | refine Below.setCell ?_ ?_ _ | refine Below.alloc ?_ ?_ _ | refine Below.drewN ?_ _ | refine Below.drew ?_)) <;> first | omega | (simp; omega) | (simp; done))) HO.out (by rw [List.append_nil]; exact HR.out.below (by (repeat (with_reducible first | exact Below.refl _ _ | refine Below.setCell ?_ ?_ _ | refine Below.alloc ?_ ?_ _ | refine Below.drewN ?_ _ | refine Below.drew ?_)) <;> first | omega | (simp; omega) | (simp; done))) (fun k e => .inl e)
     by_cases k3 : pk = 3
     ·subst k3
      have HE := Lib.hid ((CPat.bnd_some (st := st) (l := []) (show p.names s = some [] by rw [HN.out]; simp [h0])).trans (show _ = some ([], st) from rfl))
      simp only [hpk, hpn, hpl]
      clear hpk hpn hpl hse hsz hN IH H7
      rw [h0]
      go_enter Tryz.func53, Tryz.ntmps53
      go_wp2
      go_ret
      rw [HE.out]
      exact rpatSome (by (repeat (with_reducible first | exact Kept.refl _ _ | refine Kept.setNew ?_ ?_ _ | refine Kept.alloc ?_ _ | refine Kept.drewN ?_ _ | refine Kept.drew ?_)) <;> first | omega | (simp; omega) | (simp; done)) (HH.out.below (by (repeat (with_reducible first | exact Below.refl _ _ | refine Below.setCell ?_ ?_ _ | refine Below.alloc ?_ ?_ _ | refine Below.drewN ?_ _ | refine Below.drew ?_)) <;> first | omega | (simp; omega) | (simp; done))) HO.out (by rw [List.append_nil]; exact HR.out.below (by (repeat (with_reducible first | exact Below.refl _ _ | refine Below.setCell ?_ ?_ _ | refine Below.alloc ?_ ?_ _ | refine Below.drewN ?_ _ | refine Below.drew ?_)) <;> first | omega | (simp; omega) | (simp; done))) (fun k e => .inl e)
     by_cases k4 : pk = 4
     ·subst k4
      have HE := Lib.hid ((CPat.bnd_some (st := st) (l := []) (show p.names s = some [] by rw [HN.out]; simp [h0])).trans (show _ = some ([], st) from rfl))
      simp only [hpk, hpn, hpl]
      clear hpk hpn hpl hse hsz hN IH H7
      rw [h0]
      go_enter Tryz.func53, Tryz.ntmps53
      go_wp2
      go_ret
      rw [HE.out]
      exact rpatSome (by (repeat (with_reducible first | exact Kept.refl _ _ | refine Kept.setNew ?_ ?_ _ | refine Kept.alloc ?_ _ | refine Kept.drewN ?_ _ | refine Kept.drew ?_)) <;> first | omega | (simp; omega) | (simp; done)) (HH.out.below (by (repeat (with_reducible first | exact Below.refl _ _ | refine Below.setCell ?_ ?_ _ | refine Below.alloc ?_ ?_ _ | refine Below.drewN ?_ _ | refine Below.drew ?_)) <;> first | omega | (simp; omega) | (simp; done))) HO.out (by rw [List.append_nil]; exact HR.out.below (by (repeat (with_reducible first | exact Below.refl _ _ | refine Below.setCell ?_ ?_ _ | refine Below.alloc ?_ ?_ _ | refine Below.drewN ?_ _ | refine Below.drew ?_)) <;> first | omega | (simp; omega) | (simp; done))) (fun k e => .inl e)
     omega
    ·have t4 : decide ((0 : Int) < (l.length : Int)) = true := decide_eq_true (by omega)
     have HE := Lib.hid (CPat.bnd_none (st := st) ((by rw [HN.out]; simp [h0, k5]) : p.names s = none))
     simp only [hpk, hpn, hpl]
     clear hpk hpn hpl hse hsz hN IH H7
     go_enter Tryz.func53, Tryz.ntmps53
     go_wp2
     go_ret
     rw [HE.out]
     exact rpatNone (by (repeat (with_reducible first | exact Kept.refl _ _ | refine Kept.setNew ?_ ?_ _ | refine Kept.alloc ?_ _ | refine Kept.drewN ?_ _ | refine Kept.drew ?_)) <;> first | omega | (simp; omega) | (simp; done)) (HH.out.below (by (repeat (with_reducible first | exact Below.refl _ _ | refine Below.setCell ?_ ?_ _ | refine Below.alloc ?_ ?_ _ | refine Below.drewN ?_ _ | refine Below.drew ?_)) <;> first | omega | (simp; omega) | (simp; done))) HO.out (HR.out.below (by (repeat (with_reducible first | exact Below.refl _ _ | refine Below.setCell ?_ ?_ _ | refine Below.alloc ?_ ?_ _ | refine Below.drewN ?_ _ | refine Below.drew ?_)) <;> first | omega | (simp; omega) | (simp; done))).vr
end Go.Proofs.YtdhodaefgliphaaGreatDoor
