/- Contracts: the closures of looker.core. -/
import Derived.Test.YtdhodaefgliphaaGreatDoorMayB
import Derived.Laws.AppendOwnNone
import Derived.Test.YtdhodaefgliphaaGreatDoorIdg
set_option linter.unusedVariables false
set_option linter.unusedSimpArgs false
namespace Go.Proofs.YtdhodaefgliphaaGreatDoor
open Go.RowKit
namespace Core
def alls (s : Sig) (tops : Int) : List Core → Bnd → Option Bnd
 | [], st => some st
 | t :: r, st => (t.may s tops st).bind fun s1 => alls s tops r s1
theorem kids_none (s : Sig) (tops v : Int) : ∀ (i : Nat) (l : List Core) (st : Bnd), Core.kids s tops none v i l st = alls s tops l st
 | _, [], _ => rfl
 | i, t :: r, st => by
   simp only [Core.kids, alls, reduceCtorEq, if_false, Option.bind_some]
   cases t.may s tops st with
   | none => rfl
   | some s1 => exact kids_none s tops v (i + 1) r s1
theorem kids_past (s : Sig) (tops v : Int) (j : Nat) : ∀ (i : Nat) (l : List Core) (st : Bnd), j < i → Core.kids s tops (some j) v i l st = alls s tops l st
 | _, [], _, _ => rfl
 | i, t :: r, st, h => by
   have hne : ¬(some j = some i) := by intro e; injection e; omega
   simp only [Core.kids, alls, if_neg hne, Option.bind_some]
   cases t.may s tops st with
   | none => rfl
   | some s1 => exact kids_past s tops v j (i + 1) r s1 (by omega)
theorem kids_zero (s : Sig) (tops v : Int) (t : Core) (r : List Core) (st : Bnd) : Core.kids s tops (some 0) v 0 (t :: r) st = (st.bind v).bind fun s1 => alls s tops (t :: r) s1 := by
 simp only [Core.kids, alls, if_true]
 cases st.bind v with
 | none => rfl
 | some s1 =>
   show (t.may s tops s1).bind _ = (t.may s tops s1).bind _
   cases t.may s tops s1 with
   | none => rfl
   | some s2 => exact kids_past s tops v 0 1 r s2 (by omega)
theorem kids_one (s : Sig) (tops v : Int) (a b : Core) (st : Bnd) : Core.kids s tops (some 1) v 0 [a, b] st = (alls s tops [a] st).bind fun s1 => (s1.bind v).bind fun s2 => alls s tops [b] s2 := by
 have h0 : ¬(some 1 = some 0) := by intro e; injection e; omega
 simp only [Core.kids, alls, if_neg h0, Option.bind_some, if_true, Nat.zero_add]
 cases a.may s tops st <;> rfl
theorem alls_app (s : Sig) (tops : Int) : ∀ (l m : List Core) (st : Bnd), alls s tops (l ++ m) st = (alls s tops l st).bind fun s1 => alls s tops m s1
 | [], m, st => rfl
 | t :: r, m, st => by
   simp only [List.cons_append, alls]
   cases t.may s tops st with
   | none => rfl
   | some s1 => exact alls_app s tops r m s1
theorem alls_take (s : Sig) (tops : Int) {l : List Core} {k : Nat} (hk : k < l.length) {st s1 : Bnd} (h : alls s tops (l.take k) st = some s1) : alls s tops (l.take (k + 1)) st = l[k].may s tops s1 := by
 rw [List.take_succ_eq_append_getElem hk, alls_app, h]
 show (l[k].may s tops s1).bind _ = _
 cases l[k].may s tops s1 <;> rfl
theorem alls_stop (s : Sig) (tops : Int) {l : List Core} {k : Nat} (hk : k < l.length) {st s1 : Bnd} (h : alls s tops (l.take k) st = some s1) (hn : l[k].may s tops s1 = none) : alls s tops l st = none := by
 rw [← List.take_append_drop (k + 1) l, alls_app, alls_take s tops hk h, hn]; rfl
end Core
theorem enters_all1 : Enters Tryz.prog 36 := enters Tryz.func36 (by kernel_rfl) rfl
theorem enters_all : Enters Tryz.prog 34 := enters Tryz.func34 (by kernel_rfl) rfl
theorem enters_core2 : Enters Tryz.prog 38 := enters Tryz.func38 (by kernel_rfl) rfl
theorem enters_core3 : Enters Tryz.prog 39 := enters Tryz.func39 (by kernel_rfl) rfl
theorem enters_core4 : Enters Tryz.prog 40 := enters Tryz.func40 (by kernel_rfl) rfl
theorem enters_core5 : Enters Tryz.prog 44 := enters Tryz.func44 (by kernel_rfl) rfl
theorem enters_core51 : Enters Tryz.prog 46 := enters Tryz.func46 (by kernel_rfl) rfl
set_option maxHeartbeats 1000000 in
theorem all1_any (us : List Value) (c : Core) (n0 kb bb hb n B : Nat) (o : Option Bnd) (w : World) (hus : Rds w B us c.d) (h0 : w.cell? ⟨n0, 0, none⟩ = some (.pointer (some ⟨kb, 0, none⟩))) (hn0 : n0 < w.heap.size)
  (hc : ∀ W, Kept (Xs bb hb) w W → Below w.heap.size w W → Calls Tryz.prog 14 #[.pointer (some ⟨kb, 0, none⟩), .agg us.toArray] W (Ans o bb hb n W)) :
  Calls Tryz.prog 36 #[.agg us.toArray, .pointer (some ⟨n0, 0, none⟩)] w fun e w' => e = .returned (.bool (!o.isSome)) ∧ Ans o bb hb n w (.returned (.bool o.isSome)) w' := by
 have HC := Lib.hid hc
 obtain ⟨v7, v8, rfl, g7, g8, -⟩ := Core.cells hus
 obtain ⟨a7, c7, rfl⟩ := g7.slice_inv
 obtain ⟨a8, c8, rfl⟩ := g8.slice_inv
 clear hc hus g7 g8
 go_enter Tryz.func36, Tryz.ntmps36
 go_wp2_with fail
 refine (HC.out _ ((Kept.refl _ _).alloc _) ((Below.refl _ _).alloc (Nat.le_refl _) _)).mono ?_
 rintro e w2 ⟨rfl, h2⟩
 have HA : Ans o bb hb n w (.returned (.bool o.isSome)) w2 := Ans.kept ((Kept.refl _ _).alloc _) ⟨rfl, h2⟩
 have HA := Lib.hid HA
 clear h2
 obtain ⟨q, hq⟩ : ∃ q, o.isSome = q := ⟨_, rfl⟩
 rw [hq]
 go_wp2
 all_goals
  go_ret
  first
   | exact ⟨rfl, HA.out⟩
   | exact ⟨ret_b (by simp_all), HA.out⟩
set_option maxHeartbeats 1000000 in
theorem all_any (s : Sig) (tops : Int) (l : List Core) (v : Value) (st : Bnd) (n0 kb bb hb n B : Nat) (w : World) (h0 : w.cell? ⟨n0, 0, none⟩ = some (.pointer (some ⟨kb, 0, none⟩))) (hn0 : n0 < w.heap.size) (hX0 : ¬ Xs bb hb n0)
  (hr : Rd w B v (.list 9 l.length (l.flatMap Core.d))) (hBb : B ≤ bb) (hBh : B ≤ hb) (hB : B ≤ w.heap.size) (hl : l.length ≤ 1048576) (hh : Holds w bb hb 4 st) (ho : st.Of n)
  (hc : ∀ i (h : i < l.length) W us s1, Kept (Xs bb hb) w W → Rds W B us (l[i]'h).d → Holds W bb hb 4 s1 → s1.Of n → Calls Tryz.prog 14 #[.pointer (some ⟨kb, 0, none⟩), .agg us.toArray] W (Ans ((l[i]'h).may s tops s1) bb hb n W)) :
  Calls Tryz.prog 34 #[v, .pointer (some ⟨n0, 0, none⟩)] w (Ans (Core.alls s tops l st) bb hb n w) := by
 have hlow : ∀ W, Kept (Xs bb hb) w W → Below B w W := fun W hW => hW.low (by rintro k (rfl | rfl) <;> assumption) hB
 have HC := containsGCore l v 36 #[.pointer (some ⟨n0, 0, none⟩)] B
  (fun i W => Kept (Xs bb hb) w W ∧ ∃ s1 : Bnd, Core.alls s tops (l.take i) st = some s1 ∧ Holds W bb hb 4 s1 ∧ s1.Of n)
  (fun W => Kept (Xs bb hb) w W ∧ Core.alls s tops l st = none ∧ ∃ s1 : Bnd, Holds W bb hb 4 s1 ∧ s1.Of n) w hl enters_all1 hr (fun i W h => hlow W h.1)
  ⟨Kept.refl _ _, st, rfl, hh, ho⟩ (by
    rintro i hi W us ⟨hW, s1, hs1, hh1, ho1⟩ hus
    refine (all1_any us l[i] n0 kb bb hb n B (l[i].may s tops s1) W hus ((cell_of_heap (hW.block n0 hn0 hX0)).trans h0) (Nat.lt_of_lt_of_le hn0 hW.size) fun W2 hW2 hb2 =>
     hc i hi W2 us s1 (hW.trans hW2) (hus.keep (hb2.mono (Nat.le_trans hB hW.size))) (hh1.below hb2) ho1).mono ?_
    rintro e w' ⟨rfl, hA⟩
    obtain ⟨-, hk2, s2, hh2, ho2, hs2⟩ := hA
    refine ⟨_, rfl, fun hb => ⟨hW.trans hk2, ?_, s2, hh2, ho2⟩, fun hb => ⟨hW.trans hk2, s2, ?_, hh2, ho2⟩⟩
    ·cases hm : l[i].may s tops s1 with
     | none => exact Core.alls_stop s tops hi hs1 hm
     | some x => rw [hm] at hb; cases hb
    ·cases hm : l[i].may s tops s1 with
     | none => rw [hm] at hb; cases hb
     | some x => rw [Core.alls_take s tops hi hs1, hm, hs2 x hm])
 have HC := Lib.hid HC
 obtain ⟨a, cap, rfl⟩ := hr.slice_inv
 clear hr hc hlow hh ho
 go_enter Tryz.func34, Tryz.ntmps34
 go_wp2_with fail
 refine HC.out.mono ?_
 rintro e w2 ⟨b, rfl, hq, hi⟩
 cases b
 ·have HI := Lib.hid (hi rfl)
  clear hq hi
  go_wp2
  go_ret
  obtain ⟨hk2, s1, hs1, hh1, ho1⟩ := HI.out
  rw [List.take_length] at hs1
  exact Ans.mk s1 (by rw [hs1]; rfl) hk2 hh1 ho1 (fun x hx => by rw [hs1] at hx; injection hx)
 ·have HQ := Lib.hid (hq rfl)
  clear hq hi
  go_wp2
  go_ret
  obtain ⟨hk2, hn', s1, hh1, ho1⟩ := HQ.out
  exact Ans.mk s1 (by rw [hn']; rfl) hk2 hh1 ho1 (fun x hx => by rw [hn'] at hx; cases hx)
end Go.Proofs.YtdhodaefgliphaaGreatDoor
namespace Go.Proofs.YtdhodaefgliphaaGreatDoor
open Go.RowKit
namespace CPat
theorem names_eq (s : Sig) (p : CPat) : p.names s = if p.kind = 1 then (if p.l.length = 0 then some [p.n] else none)
  else if p.kind = 2 ∨ p.kind = 3 ∨ p.kind = 4 then (if p.l.length = 0 then some [] else none)
  else if p.kind = 5 then (CPat.namesL s p.l).bind fun all => if s.has p.n p.l.length then some all else none
  else none := by cases p; rw [CPat.names]; rfl
mutual
theorem names_len (s : Sig) : ∀ (p : CPat) (a : List Int), p.names s = some a → a.length ≤ p.size
 | .mk k n i st at_ line col l, a, h => by
   simp only [CPat.names] at h
   simp only [CPat.size]
   split at h
   ·split at h
    ·injection h with h; subst h; simp
    ·cases h
   ·split at h
    ·split at h
     ·injection h with h; subst h; simp
     ·cases h
    ·split at h
     ·rw [Option.bind_eq_some_iff] at h
      obtain ⟨all, h1, h2⟩ := h
      split at h2
      ·injection h2 with h2; subst h2
       have := namesL_len s l all h1; omega
      ·cases h2
     ·cases h
theorem namesL_len (s : Sig) : ∀ (l : List CPat) (a : List Int), CPat.namesL s l = some a → a.length ≤ CPat.sizes l
 | [], a, h => by simp only [CPat.namesL] at h; injection h with h; subst h; simp
 | t :: r, a, h => by
   simp only [CPat.namesL, Option.bind_eq_some_iff] at h
   obtain ⟨x, h1, y, h2, h3⟩ := h
   injection h3 with h3; subst h3
   have := names_len s t x h1
   have := namesL_len s r y h2
   simp only [List.length_append, CPat.sizes]; omega
end
theorem namesL_app (s : Sig) : ∀ (l m : List CPat), CPat.namesL s (l ++ m) = (CPat.namesL s l).bind fun a => (CPat.namesL s m).bind fun b => some (a ++ b)
 | [], m => by simp only [List.nil_append, CPat.namesL, Option.bind_some, List.nil_append]; cases CPat.namesL s m <;> rfl
 | t :: r, m => by
   simp only [List.cons_append, CPat.namesL, namesL_app s r m]
   cases t.names s with
   | none => rfl
   | some x =>
     cases CPat.namesL s r with
     | none => rfl
     | some y =>
       cases CPat.namesL s m with
       | none => rfl
       | some z => simp
theorem namesL_take (s : Sig) {l : List CPat} {k : Nat} (hk : k < l.length) {a : List Int} (h : CPat.namesL s (l.take k) = some a) : CPat.namesL s (l.take (k + 1)) = (l[k].names s).bind fun b => some (a ++ b) := by
 rw [List.take_succ_eq_append_getElem hk, namesL_app, h]
 simp only [CPat.namesL, Option.bind_some]
 cases l[k].names s <;> simp
theorem namesL_stop (s : Sig) {l : List CPat} {k : Nat} (hk : k < l.length) {a : List Int} (h : CPat.namesL s (l.take k) = some a) (hn : l[k].names s = none) : CPat.namesL s l = none := by
 rw [← List.take_append_drop (k + 1) l, namesL_app, namesL_take s hk h, hn]; rfl
theorem sizes_take (l : List CPat) (k : Nat) : CPat.sizes (l.take k) ≤ CPat.sizes l := by
 induction l generalizing k with
 | nil => simp
 | cons t r ih =>
   cases k with
   | zero => simp [CPat.sizes]
   | succ k => simp only [List.take_succ_cons, CPat.sizes]; have := ih k; omega
end CPat
def PatAns (o : Option (List Int)) (w : World) (e : Ending) (w' : World) : Prop :=
 ∃ v, e = .returned (.tuple #[v, .bool o.isSome]) ∧ Below w.heap.size w w' ∧ ∀ l, o = some l → w'.ownsRow w.heap.size 3 1 v l.length (i64s l)
theorem patNone {w w' : World} {v : Value} (h : Below w.heap.size w w') : PatAns none w (.returned (.tuple #[v, .bool false])) w' := ⟨v, rfl, h, fun l hl => by cases hl⟩
theorem patSome {w w' : World} {v : Value} {l : List Int} (h : Below w.heap.size w w') (ho : w'.ownsRow w.heap.size 3 1 v l.length (i64s l)) : PatAns (some l) w (.returned (.tuple #[v, .bool true])) w' :=
 ⟨v, rfl, h, fun m hm => by injection hm with hm; subst hm; exact ho⟩
theorem nat_beq0 (a : Nat) : ((a : Int) == 0) = decide (a = 0) := nat_beq a 0
theorem own_one {w : World} {B g : Nat} {z : Int} (hB : B ≤ w.heap.size) (hg : g = w.heap.size) : (w.alloc (.cells #[.int .i64 z] 3)).ownsRow B 3 1 (.slice (some ⟨g, 0, none⟩) 1 1) [z].length (i64s [z]) := by
 subst hg
 exact ⟨rfl, .inr ⟨w.heap.size, 1, #[.int .i64 z], rfl, hB, heap_alloc_new _ _, Nat.le_refl _, by unfold maxLen; omega, rfl, rfl⟩⟩
theorem own_nil (w : World) (B : Nat) : w.ownsRow B 3 1 (.slice none 0 0) ([] : List Int).length (i64s []) := ⟨rfl, .inl ⟨rfl, rfl⟩⟩
theorem patIf {w w' : World} {v : Value} {len : Nat} {l : List Int} (h : Below w.heap.size w w') (ho : w'.ownsRow w.heap.size 3 1 v l.length (i64s l)) :
  PatAns (if len = 0 then some l else none) w (.returned (.tuple #[v, .bool ((len : Int) == 0)])) w' := by
 rw [nat_beq0]
 by_cases h0 : len = 0
 ·rw [if_pos h0, decide_eq_true h0]; exact patSome h ho
 ·rw [if_neg h0, decide_eq_false h0]; exact patNone h
set_option maxRecDepth 100000 in
set_option maxHeartbeats 4000000 in
theorem pat_any (s : Sig) (kb bb hb n B : Nat) (dv cv tv : Value) (vars tops : Int) (hl : s.cons.length ≤ 1048576) (hf : ∀ i (h : i < s.cons.length), s.cons[i].fields.length ≤ 1048576) :
  ∀ (N : Nat) (p : CPat) (us : List Value) (w : World), p.size ≤ N → p.size ≤ 1048576 → Blk w kb (lkC dv cv tv vars tops bb hb n) 59 → B ≤ w.heap.size → Rd w B cv (.list 4 s.cons.length (s.cons.flatMap Con.d)) →
    Rds w w.heap.size us p.d → Calls Tryz.prog 45 #[.pointer (some ⟨kb, 0, none⟩), .agg us.toArray] w (PatAns (p.names s) w) := by
 intro N
 induction N with
 | zero => intro p us w h; have := p.size_pos; omega
 | succ N ih =>
   intro p us w hN hsz hk hB hr hus
   have IH := Lib.hid ih
   have HE := Lib.hid (CPat.names_eq s p)
   have hse := p.size_eq
   have hlen : p.l.length ≤ 1048576 := by have := CPat.sizes_len p.l; omega
   obtain ⟨v7, rfl, h7, -⟩ := CPat.cells hus
   have H7 := Lib.hid h7
   obtain ⟨a7, c7, rfl⟩ := h7.slice_inv
   clear ih hus h7
   obtain ⟨pk, hpk⟩ : ∃ x, p.kind = x := ⟨_, rfl⟩
   obtain ⟨pn, hpn⟩ : ∃ x, p.n = x := ⟨_, rfl⟩
   obtain ⟨l, hpl⟩ : ∃ x, p.l = x := ⟨_, rfl⟩
   rw [hpk, hpn, hpl] at HE
   rw [hpl] at H7 hlen hse
   by_cases k1 : pk = 1
   ·subst k1
    have HE2 : p.names s = if l.length = 0 then some [pn] else none := by rw [HE.out]; simp
    have HE := Lib.hid HE2
    clear HE2
    simp only [hpk, hpn, hpl]
    clear hpk hpn hpl hse hsz hN IH
    go_enter Tryz.func45, Tryz.ntmps45
    go_wp2
    go_region
    all_goals
     go_wp2
     go_ret2
     rw [HE.out]
     refine patIf ?_ ?_
     ·(repeat (with_reducible first | exact Below.refl _ _ | refine Below.setCell ?_ ?_ _ | refine Below.alloc ?_ ?_ _ | refine Below.drewN ?_ _ | refine Below.drew ?_)) <;> first | omega | (simp; omega) | (simp; done)
     ·refine own_drew (own_one ?_ ?_)
      ·first | omega | simp
      ·first | omega | simp
   by_cases k2 : pk = 2
   ·subst k2
    have HE2 : p.names s = if l.length = 0 then some [] else none := by rw [HE.out]; simp
    have HE := Lib.hid HE2
    clear HE2
    simp only [hpk, hpn, hpl]
    clear hpk hpn hpl hse hsz hN IH
    go_enter Tryz.func45, Tryz.ntmps45
    go_wp2_with fail
    go_quiet (fail)
    go_wp2
    go_ret2
    rw [HE.out]
    refine patIf ?_ (own_nil _ _)
    (repeat (with_reducible first | exact Below.refl _ _ | refine Below.setCell ?_ ?_ _ | refine Below.alloc ?_ ?_ _ | refine Below.drewN ?_ _ | refine Below.drew ?_)) <;> first | omega | (simp; omega) | (simp; done)
   by_cases k3 : pk = 3
   ·subst k3
    have HE2 : p.names s = if l.length = 0 then some [] else none := by rw [HE.out]; simp
    have HE := Lib.hid HE2
    clear HE2
    simp only [hpk, hpn, hpl]
    clear hpk hpn hpl hse hsz hN IH
    go_enter Tryz.func45, Tryz.ntmps45
    go_wp2_with fail
    go_quiet (fail)
    go_wp2
    go_ret2
    rw [HE.out]
    refine patIf ?_ (own_nil _ _)
    (repeat (with_reducible first | exact Below.refl _ _ | refine Below.setCell ?_ ?_ _ | refine Below.alloc ?_ ?_ _ | refine Below.drewN ?_ _ | refine Below.drew ?_)) <;> first | omega | (simp; omega) | (simp; done)
   by_cases k4 : pk = 4
   ·subst k4
    have HE2 : p.names s = if l.length = 0 then some [] else none := by rw [HE.out]; simp
    have HE := Lib.hid HE2
    clear HE2
    simp only [hpk, hpn, hpl]
    clear hpk hpn hpl hse hsz hN IH
    go_enter Tryz.func45, Tryz.ntmps45
    go_wp2_with fail
    go_quiet (fail)
    go_wp2
    go_ret2
    rw [HE.out]
    refine patIf ?_ (own_nil _ _)
    (repeat (with_reducible first | exact Below.refl _ _ | refine Below.setCell ?_ ?_ _ | refine Below.alloc ?_ ?_ _ | refine Below.drewN ?_ _ | refine Below.drew ?_)) <;> first | omega | (simp; omega) | (simp; done)
   by_cases k5 : pk = 5
   ·subst k5
    have HE2 : p.names s = (CPat.namesL s l).bind fun all => if s.has pn l.length then some all else none := by rw [HE.out]; simp
    have HE := Lib.hid HE2
    obtain ⟨i0, hi, hz0, hz1, hz2⟩ := info_parts (show (Tryz.prog.info? 3).map (fun i => (i.zero, i.size, i.bytes)) = some (some (.int .i64 0), 1, 8) by kernel_rfl)
    simp only [hpk, hpn, hpl]
    clear HE2 hpk hpn hpl
    go_enter Tryz.func45, Tryz.ntmps45
    go_wp2
    obtain ⟨W0, hW0⟩ : ∃ W, w.alloc (.cells #[.int .u8 5, .int .i64 pn, .int .i64 p.i, .string p.s, .int .i64 p.at_, .int .i64 p.line, .int .i64 p.col, .slice a7 l.length c7] 49) = W := ⟨_, rfl⟩
    have hb0 : Below w.heap.size w W0 := by rw [← hW0]; exact (Below.refl _ _).alloc (Nat.le_refl _) _
    have hs0 : W0.heap.size = w.heap.size + 1 := by rw [← hW0]; simp
    have hx0 := Blk.new w _ (#[.int .u8 5, .int .i64 pn, .int .i64 p.i, .string p.s, .int .i64 p.at_, .int .i64 p.line, .int .i64 p.col, .slice a7 l.length c7] : Array Value) 49 rfl
    rw [hW0] at hx0
    have hs0 := Lib.hid hs0
    rw [hW0]
    clear hW0
    go_loopw [35, 6] (fun u u6 wr => ∃ (k : Nat) (acc : List Int), k ≤ l.length ∧ u = .int .i64 k ∧ Hid (CPat.namesL s (l.take k) = some acc) ∧ wr.ownsRow (w.heap.size + 1) 3 1 u6 acc.length (i64s acc) ∧ Below w.heap.size w wr ∧ Below (w.heap.size + 1) W0 wr) (fun u _ _ => l.length - (intOf u).toNat)
    case atStart => exact ⟨0, [], Nat.zero_le _, rfl, rfl, own_nil _ _, hb0, Below.refl _ _⟩
    case round =>
     obtain ⟨k, acc, hk1, rfl, HA, hown, hbel, hbel0⟩ := hrel
     have hsz1 := hbel.size
     have hxr := hx0.below hbel0 (by omega)
     have x1 : wr.cell? ⟨w.heap.size, 1, none⟩ = some (.int .i64 pn) := (hxr.cell 1).trans rfl
     have x7 : wr.cell? ⟨w.heap.size, 7, none⟩ = some (.slice a7 l.length c7) := (hxr.cell 7).trans rfl
     by_cases hlt : k < l.length
     ·obtain ⟨b, off, cap', us, hv, hblt, hc, hcell, hus⟩ := H7.out.elem CPat.d_len rfl k hlt (by omega)
      injection hv with ha hn' hcap
      subst ha hcap
      obtain ⟨v7', hus', h7', -⟩ := CPat.cells hus
      obtain ⟨a7', c7', rfl⟩ := h7'.slice_inv
      subst hus'
      have c0 := (hbel.cell (p := ⟨b, off + k * 8, none⟩) hblt).trans (hcell 0 _ rfl)
      have c1 := (hbel.cell (p := ⟨b, off + k * 8 + 1, none⟩) hblt).trans (hcell 1 _ rfl)
      have c2 := (hbel.cell (p := ⟨b, off + k * 8 + 2, none⟩) hblt).trans (hcell 2 _ rfl)
      have c3 := (hbel.cell (p := ⟨b, off + k * 8 + 3, none⟩) hblt).trans (hcell 3 _ rfl)
      have c4 := (hbel.cell (p := ⟨b, off + k * 8 + 4, none⟩) hblt).trans (hcell 4 _ rfl)
      have c5 := (hbel.cell (p := ⟨b, off + k * 8 + 5, none⟩) hblt).trans (hcell 5 _ rfl)
      have c6 := (hbel.cell (p := ⟨b, off + k * 8 + 6, none⟩) hblt).trans (hcell 6 _ rfl)
      have cc7 := (hbel.cell (p := ⟨b, off + k * 8 + 7, none⟩) hblt).trans (hcell 7 _ rfl)
      have hsub : l[k].size ≤ N ∧ l[k].size ≤ 1048576 := by have := CPat.sizes_get l k hlt; omega
      have HC := Lib.hid (fun (W : World) (hB2 : Below w.heap.size w W) => IH.out l[k] _ W hsub.1 hsub.2 (hk.below hB2 hk.lt) (Nat.le_trans hB hB2.size) (hr.keep (hB2.mono hB)) ((hus.keep hB2).mono hB2.size))
      have HT := Lib.hid (CPat.namesL_take s hlt HA.out)
      have HS := Lib.hid (CPat.namesL_stop s hlt HA.out)
      have HNL := Lib.hid (CPat.names_len s l[k])
      have HO := Lib.hid hown
      clear hcell hus hown hsub h7'
      go_wp2_with fail
      refine (HC.out _ (by (repeat (with_reducible first | exact hbel | refine Below.setCell ?_ ?_ _ | refine Below.alloc ?_ ?_ _ | refine Below.drewN ?_ _ | refine Below.drew ?_)) <;> first | omega | (simp; omega) | (simp; done))).mono ?_
      rintro e w2 ⟨v2, rfl, hb2, ho2⟩
      have hb3 : Below w.heap.size w w2 := by
       refine Below.trans ?_ (hb2.mono (by first | omega | (simp; omega) | (simp; done)))
       (repeat (with_reducible first | exact hbel | refine Below.setCell ?_ ?_ _ | refine Below.alloc ?_ ?_ _ | refine Below.drewN ?_ _ | refine Below.drew ?_)) <;> first | omega | (simp; omega) | (simp; done)
      cases hnm : l[k].names s with
      | none =>
        have HS2 := Lib.hid (HS.out hnm)
        clear ho2 hnm
        go_wp2
        go_ret2
        rw [HE.out, HS2.out]
        exact patNone hb3
      | some nm =>
        have hb4 : Below wr.heap.size wr w2 := by
         refine Below.trans ?_ (hb2.mono (by first | omega | (simp; omega) | (simp; done)))
         (repeat (with_reducible first | exact Below.refl _ _ | refine Below.setCell ?_ ?_ _ | refine Below.alloc ?_ ?_ _ | refine Below.drewN ?_ _ | refine Below.drew ?_)) <;> first | omega | (simp; omega) | (simp; done)
        have hwr : w.heap.size + 1 ≤ wr.heap.size := by have := hbel0.size; rw [hs0.out] at this; exact this
        have hs2 : w.heap.size + 1 ≤ w2.heap.size := by have := hb4.size; omega
        have HN2 := Lib.hid (HT.out.trans (by rw [hnm]; rfl : _ = some (acc ++ nm)))
        have hal : acc.length ≤ 1048576 ∧ nm.length ≤ 1048576 := by
         have g1 := CPat.namesL_len s (l.take k) acc HA.out
         have g2 := CPat.sizes_take l k
         have g3 := HNL.out nm hnm
         have g4 := CPat.sizes_get l k hlt
         omega
        have hoa := own_below HO.out hb4 (Nat.le_refl _)
        have hon := ho2 nm hnm
        have HOA := Lib.hid hoa
        rcases hon.2 with ⟨rfl, hn0⟩ | ⟨g, cap2, cur, rfl, hgb, hgg, hnc, hrest⟩
        ·obtain rfl := List.eq_nil_of_length_eq_zero hn0
         clear ho2 hnm hoa hon
         go_wp2_with (at_builtin; refine wpList_append_own_none rfl _ _ 53 rfl (w.heap.size + 1) 3 i0 1 Tryz.underlying53 hi _ acc.length (i64s acc) rfl HOA.out rfl ?_)
         obtain ⟨ob, cb, hvb⟩ := own_slice HOA.out
         subst hvb
         go_wp2
         go_roundw
         case rel => exact ⟨k + 1, acc ++ [], hlt, by go_num, HN2, by rw [List.append_nil]; exact HOA.out, hb3, hbel0.trans (hb4.mono hwr)⟩
         case measure => simp [intOf]; omega
        ·have hnews : ∀ j u, (i64s nm)[j]? = some u → w2.cell? ((⟨g, 0, none⟩ : Addr).add j) = some u := fun j u hj => hon.cells (g := g) rfl j u hj
         have HNW := Lib.hid hnews
         clear ho2 hnm hoa hon hnews hrest hgg
         go_wp2_with (at_builtin; refine wpList_append_own _ rfl _ _ 53 rfl (w.heap.size + 1) 3 i0 (.int .i64 0) 1 8 Tryz.underlying53 hi hz0 hz1 hz2 rfl (by decide) _ _ _ rfl HOA.out ⟨g, 0, none⟩ nm.length cap2 (i64s nm) rfl (by rw [i64s_len, Nat.mul_one]) HNW.out ?c2 ?c3 ?c4 ?c5 ?_)
         case c2 => intro u hu; simp only [i64s, List.mem_map] at hu; obtain ⟨z, _, rfl⟩ := hu; rfl
         case c3 => unfold maxLen; omega
         case c4 => omega
         case c5 => first | omega | (simp; omega)
         intro v' w3 hown' hgrow _
         have hb5 : Below (w.heap.size + 1) W0 w3 := (hbel0.trans (hb4.mono hwr)).grown hgrow (by omega) (fun q hq => by have := (HOA.out.lt q hq).1; omega)
         have hb6 : Below w.heap.size w w3 := hb3.grown hgrow (by omega) (fun q hq => by have := (HOA.out.lt q hq).1; omega)
         obtain ⟨ob, cb, hvb⟩ := own_slice hown'
         subst hvb
         have HO3 := Lib.hid hown'
         clear hown' hgrow
         go_wp2
         go_roundw
         case rel => exact ⟨k + 1, acc ++ nm, hlt, by go_num, HN2, by rw [List.length_append, i64s, List.map_append]; exact HO3.out, hb6, hb5⟩
         case measure => simp [intOf]; omega
     ·have hall : CPat.namesL s l = some acc := by have := HA.out; rwa [List.take_of_length_le (by omega)] at this
      have HALL := Lib.hid hall
      have HO := Lib.hid hown
      obtain ⟨ob, cb, hvb⟩ := own_slice hown
      subst hvb
      clear hown hall
      go_wp2_with fail
      refine (has_any s kb l.length pn dv cv tv vars tops bb hb n B _ ?_ ?_ ?_ ?_ ?_ ?_).mono ?_
      ·exact hk.below hbel hk.lt
      ·exact Nat.le_trans hB hbel.size
      ·exact hr.keep (hbel.mono hB)
      ·exact hlen
      ·exact hl
      ·exact hf
      rintro e w2 ⟨rfl, hb2⟩
      have HB2 := Lib.hid hb2
      obtain ⟨q, hq⟩ : ∃ q, s.has pn l.length = q := ⟨_, rfl⟩
      have HQ := Lib.hid hq
      rw [hq]
      clear hb2 hq
      go_wp2
      go_ret2
      rw [HE.out, HALL.out]
      simp only [Option.bind_some, HQ.out]
      cases q
      ·exact patNone (hbel.trans (HB2.out.mono hbel.size))
      ·exact patSome (hbel.trans (HB2.out.mono hbel.size)) (own_base (own_below HO.out HB2.out (Nat.le_refl _)) (by omega))
   ·have t1 : (pk == 1) = false := by simpa using k1
    have t2 : (pk == 2) = false := by simpa using k2
    have t3 : (pk == 3) = false := by simpa using k3
    have t4 : (pk == 4) = false := by simpa using k4
    have t5 : (pk == 5) = false := by simpa using k5
    have HE2 : p.names s = none := by rw [HE.out]; simp [k1, k2, k3, k4, k5]
    have HE := Lib.hid HE2
    simp only [hpk, hpn, hpl]
    clear HE2 hpk hpn hpl k1 k2 k3 k4 k5 hse hsz hN IH
    go_enter Tryz.func45, Tryz.ntmps45
    go_wp2
    go_ret2
    rw [HE.out]
    exact patNone (by (repeat (with_reducible first | exact Below.refl _ _ | refine Below.setCell ?_ ?_ _ | refine Below.alloc ?_ ?_ _ | refine Below.drewN ?_ _ | refine Below.drew ?_)) <;> first | omega | (simp; omega) | (simp; done))
end Go.Proofs.YtdhodaefgliphaaGreatDoor
namespace Go.Proofs.YtdhodaefgliphaaGreatDoor
open Go.RowKit
set_option maxHeartbeats 1000000 in
theorem core2_any (v : Value) (n0 n1 n2 bb hb n : Nat) (o : Option Bnd) (w : World) (h2 : w.cell? ⟨n2, 0, none⟩ = some (.func (.func 34) #[] #[.pointer (some ⟨n0, 0, none⟩)]))
  (h1 : w.cell? ⟨n1, 7, none⟩ = some v) (hall : Calls Tryz.prog 34 #[v, .pointer (some ⟨n0, 0, none⟩)] w (Ans o bb hb n w)) :
  Calls Tryz.prog 38 #[.pointer (some ⟨n2, 0, none⟩), .pointer (some ⟨n1, 0, none⟩)] w (Ans o bb hb n w) := by
 have HA := Lib.hid hall
 have hin := enters_all
 unfold Enters at hin
 clear hall
 go_enter Tryz.func38, Tryz.ntmps38
 go_wp2_with fail
 refine HA.out.mono ?_
 rintro e w2 ⟨rfl, h3⟩
 have HR := Lib.hid h3
 obtain ⟨q, hq⟩ : ∃ q, o.isSome = q := ⟨_, rfl⟩
 have HQ := Lib.hid hq
 rw [hq]
 clear h3 hq
 go_wp2
 go_ret
 exact ⟨ret_b HQ.out.symm, HR.out⟩
set_option maxHeartbeats 1000000 in
theorem core4_any (v : Value) (n0 n1 n2 bb hb n : Nat) (o : Option Bnd) (w : World) (h2 : w.cell? ⟨n2, 0, none⟩ = some (.func (.func 34) #[] #[.pointer (some ⟨n0, 0, none⟩)]))
  (h1 : w.cell? ⟨n1, 7, none⟩ = some v) (hall : Calls Tryz.prog 34 #[v, .pointer (some ⟨n0, 0, none⟩)] w (Ans o bb hb n w)) :
  Calls Tryz.prog 40 #[.pointer (some ⟨n2, 0, none⟩), .pointer (some ⟨n1, 0, none⟩)] w (Ans o bb hb n w) := by
 have HA := Lib.hid hall
 have hin := enters_all
 unfold Enters at hin
 clear hall
 go_enter Tryz.func40, Tryz.ntmps40
 go_wp2_with fail
 refine HA.out.mono ?_
 rintro e w2 ⟨rfl, h3⟩
 have HR := Lib.hid h3
 obtain ⟨q, hq⟩ : ∃ q, o.isSome = q := ⟨_, rfl⟩
 have HQ := Lib.hid hq
 rw [hq]
 clear h3 hq
 go_wp2
 go_ret
 exact ⟨ret_b HQ.out.symm, HR.out⟩
set_option maxHeartbeats 1000000 in
theorem core3_any (b off len cap : Nat) (n0 n1 n2 bb hb n : Nat) (o : Option Bnd) (w : World) (h2 : w.cell? ⟨n2, 0, none⟩ = some (.func (.func 34) #[] #[.pointer (some ⟨n0, 0, none⟩)]))
  (h1 : w.cell? ⟨n1, 7, none⟩ = some (.slice (some ⟨b, off, none⟩) (len + 1) cap)) (hlen : len + 1 ≤ cap) (hlen2 : len ≤ 1048576) (hcap : ¬ cap = 1) (hall : ∀ W, Kept (Xs bb hb) w W → W.heap = w.heap → Calls Tryz.prog 34 #[.slice (some ⟨b, off + 9, none⟩) len (cap - 1), .pointer (some ⟨n0, 0, none⟩)] W (Ans o bb hb n W)) :
  Calls Tryz.prog 39 #[.pointer (some ⟨n2, 0, none⟩), .pointer (some ⟨n1, 0, none⟩)] w (Ans o bb hb n w) := by
 have HA := Lib.hid hall
 have hin := enters_all
 unfold Enters at hin
 clear hall
 go_enter Tryz.func39, Tryz.ntmps39
 go_wp2_with fail
 refine wp_region_segs [4] (by kernel_rfl) (by kernel_rfl) ?_
 rw [wpSegs]
 simp only [List.take_succ_cons, List.take_zero, List.drop_succ_cons, List.drop_zero]
 repeat (go_big_quiet_step (fail))
 refine wpQuiet_nil ?_
 rintro _ ⟨nq, rfl⟩
 obtain ⟨q, hq⟩ : ∃ q, o.isSome = q := ⟨_, rfl⟩
 have HQ := Lib.hid hq
 clear hq
 go_wp2_with (go_at_call 34; refine (HA.out _ ((Kept.refl _ _).drewN _) rfl).mono ?_; rintro e w2 ⟨rfl, h3⟩; rw [HQ.out])
 have HR := Lib.hid (show Ans o bb hb n w (.returned (.bool o.isSome)) w2 from Ans.kept ((Kept.refl _ _).drewN _) ⟨rfl, h3⟩)
 clear h3
 show wpSegs _ _ _ _ _ _ _
 rw [wpSegs]
 repeat (go_big_quiet_step (fail))
 refine wpQuiet_nil ?_
 rintro _ ⟨nq2, rfl⟩
 go_wp2
 go_ret
 obtain ⟨_, hk, s2, hh, ho, hs⟩ := HR.out
 exact Ans.mk s2 HQ.out.symm (hk.drewN _) (hh.drewN _) ho hs
theorem arm_eq (s : Sig) (tops : Int) (a : CArm) (st : Bnd) {nm : List Int} (h : a.p.names s = some nm) : a.may s tops st = ((st.binds nm).bind fun s1 => a.e.may s tops s1).map fun s2 => s2.drops nm := by
 rw [CArm.may_eq, h]
 simp only [Option.bind_some]
 cases st.binds nm with
 | none => rfl
 | some s1 =>
   simp only [Option.bind_some]
   cases a.e.may s tops s1 <;> rfl
theorem arm_no (s : Sig) (tops : Int) (a : CArm) (st : Bnd) (h : a.p.names s = none) : a.may s tops st = none := by
 rw [CArm.may_eq, h]; rfl
set_option maxHeartbeats 1000000 in
theorem core51_any (a : CArm) (us : List Value) (n0 m kb bb hb n B : Nat) (o : Option Bnd) (w : World) (h0 : w.cell? ⟨n0, 0, none⟩ = some (.pointer (some ⟨kb, 0, none⟩)))
  (hus : Rds w B us a.e.d) (hm : ∀ j u, us[j]? = some u → w.cell? ⟨m, 8 + j, none⟩ = some u)
  (hc : Calls Tryz.prog 14 #[.pointer (some ⟨kb, 0, none⟩), .agg us.toArray] w (Ans o bb hb n w)) :
  Calls Tryz.prog 46 #[.pointer (some ⟨n0, 0, none⟩), .pointer (some ⟨m, 0, none⟩)] w (Ans o bb hb n w) := by
 have HC := Lib.hid hc
 obtain ⟨v7, v8, rfl, g7, g8, -⟩ := Core.cells hus
 obtain ⟨a7, c7, rfl⟩ := g7.slice_inv
 obtain ⟨a8, c8, rfl⟩ := g8.slice_inv
 have e0 := hm 0 _ rfl
 have e1 := hm 1 _ rfl
 have e2 := hm 2 _ rfl
 have e3 := hm 3 _ rfl
 have e4 := hm 4 _ rfl
 have e5 := hm 5 _ rfl
 have e6 := hm 6 _ rfl
 have e7 := hm 7 _ rfl
 have e8 := hm 8 _ rfl
 simp only [Nat.reduceAdd, Nat.add_zero] at e0 e1 e2 e3 e4 e5 e6 e7 e8
 clear hc hus g7 g8 hm
 go_enter Tryz.func46, Tryz.ntmps46
 go_wp2_with fail
 refine HC.out.mono ?_
 rintro e w2 ⟨rfl, h3⟩
 have HR := Lib.hid h3
 obtain ⟨q, hq⟩ : ∃ q, o.isSome = q := ⟨_, rfl⟩
 have HQ := Lib.hid hq
 rw [hq]
 clear h3 hq
 go_wp2
 go_ret
 exact ⟨ret_b HQ.out.symm, HR.out⟩
end Go.Proofs.YtdhodaefgliphaaGreatDoor
namespace Go.Proofs.YtdhodaefgliphaaGreatDoor
open Go.RowKit
theorem own_ints {w : World} {base bb hb : Nat} {v : Value} {l : List Int} (h : w.ownsRow base 3 1 v l.length (i64s l)) (h1 : bb < base) (h2 : hb < base) : IntsAt w bb hb v l := by
 rcases h.2 with ⟨rfl, h0⟩ | ⟨g, cap, cur, rfl, hg, hgg, hnc, _⟩
 ·exact .inl ⟨List.eq_nil_of_length_eq_zero h0, none, 0, rfl⟩
 ·refine .inr ⟨g, 0, cap, rfl, Xs.not (by omega) (by omega), lt_of_heap hgg, hnc, fun k hk => ?_⟩
  have := h.cells (g := g) rfl k (.int .i64 l[k]) (by simp [i64s, hk])
  have hadd : (⟨g, 0, none⟩ : Addr).add k = ⟨g, 0 + k, none⟩ := by unfold Addr.add; split <;> simp_all
  rwa [hadd] at this
set_option maxRecDepth 100000 in
set_option maxHeartbeats 4000000 in
theorem arm_any (s : Sig) (n0 kb bb hb n B : Nat) (dv cv tv : Value) (vars tops : Int) (hl : s.cons.length ≤ 1048576) (hf : ∀ i (h : i < s.cons.length), s.cons[i].fields.length ≤ 1048576)
  (a : CArm) (us : List Value) (st : Bnd) (w : World) (hsz : a.size ≤ 1048576) (hk : Blk w kb (lkC dv cv tv vars tops bb hb n) 59) (hB : B ≤ w.heap.size) (hBb : B ≤ bb) (hBh : B ≤ hb) (hr : Rd w B cv (.list 4 s.cons.length (s.cons.flatMap Con.d)))
  (hbt : bb ≠ hb) (hkb : kb ≠ bb) (hkh : kb ≠ hb) (hn : n ≤ 1048576) (hus : Rds w B us a.d) (h0 : w.cell? ⟨n0, 0, none⟩ = some (.pointer (some ⟨kb, 0, none⟩))) (hn0 : n0 < w.heap.size) (hX0 : ¬ Xs bb hb n0)
  (hh : Holds w bb hb 4 st) (ho : st.Of n)
  (hc : ∀ W ue s1, Kept (Xs bb hb) w W → Rds W B ue a.e.d → Holds W bb hb 4 s1 → s1.Of n → Calls Tryz.prog 14 #[.pointer (some ⟨kb, 0, none⟩), .agg ue.toArray] W (Ans (a.e.may s tops s1) bb hb n W)) :
  Calls Tryz.prog 44 #[.agg us.toArray, .pointer (some ⟨n0, 0, none⟩)] w fun e w' => e = .returned (.bool (!(a.may s tops st).isSome)) ∧ Ans (a.may s tops st) bb hb n w (.returned (.bool (a.may s tops st).isSome)) w' := by
 have hpe := a.size_eq
 have hes := a.e.size_pos
 have hps := a.p.size_pos
 have hbl := hh.been.lt
 have hhl := hh.here.lt
 obtain ⟨u1, u2, rfl, g1, g2⟩ := CArm.cells hus
 have HP := Lib.hid (fun (W : World) (hW : Below w.heap.size w W) => pat_any s kb bb hb n B dv cv tv vars tops hl hf a.p.size a.p u1 W (Nat.le_refl _) (by omega) (hk.below hW hk.lt) (Nat.le_trans hB hW.size) (hr.keep (hW.mono hB)) ((g1.keep (hW.mono hB)).mono (Nat.le_trans hB hW.size)))
 have hnl := Lib.hid (CPat.names_len s a.p)
 have HH := Lib.hid hh
 have HO := Lib.hid ho
 have HC := Lib.hid hc
 have G2 := Lib.hid g2
 obtain ⟨x7, hu1, y7, -⟩ := CPat.cells g1
 obtain ⟨z7, z8, hu2, y7', y8', -⟩ := Core.cells g2
 obtain ⟨a1, c1, rfl⟩ := y7.slice_inv
 obtain ⟨a2, c2, rfl⟩ := y7'.slice_inv
 obtain ⟨a3, c3, rfl⟩ := y8'.slice_inv
 subst hu1 hu2
 clear hc hus g1 g2 y7 y7' y8' hh ho
 simp only [List.cons_append, List.nil_append]
 obtain ⟨o, hoo⟩ : ∃ o, a.may s tops st = o := ⟨_, rfl⟩
 rw [hoo]
 have HOO := Lib.hid hoo
 clear hoo
 go_enter Tryz.func44, Tryz.ntmps44
 go_wp2_with fail
 refine (HP.out _ (by (repeat (with_reducible first | exact Below.refl _ _ | refine Below.setCell ?_ ?_ _ | refine Below.alloc ?_ ?_ _ | refine Below.drewN ?_ _ | refine Below.drew ?_)) <;> first | omega | (simp; omega) | (simp; done))).mono ?_
 rintro e w2 ⟨v2, rfl, hb2, ho2⟩
 have hs1 := hb2.size
 have hb3 : Below w.heap.size w w2 := by
  refine Below.trans ?_ (hb2.mono (by first | omega | (simp; omega) | (simp; done)))
  (repeat (with_reducible first | exact Below.refl _ _ | refine Below.setCell ?_ ?_ _ | refine Below.alloc ?_ ?_ _ | refine Below.drewN ?_ _ | refine Below.drew ?_)) <;> first | omega | (simp; omega) | (simp; done)
 have hb3s := hb3.size
 cases hnm : a.p.names s with
 | none =>
   have HM := Lib.hid (arm_no s tops a st hnm)
   clear ho2 hnm
   go_wp2
   go_ret
   obtain rfl : o = none := HOO.out.symm.trans HM.out
   exact ⟨rfl, rfl, Kept.of_below hb3, st, HH.out.below hb3, HO.out, fun x hx => by cases hx⟩
 | some nm =>
   have HM := Lib.hid (arm_eq s tops a st hnm)
   have hnml := hnl.out nm hnm
   have hii := own_ints (bb := bb) (hb := hb) (ho2 nm hnm) (by simp; omega) (by simp; omega)
   have HI := Lib.hid hii
   obtain ⟨av, capv, rfl⟩ := hii.slice
   have hcell : ∀ j u, (#[.int .u8 a.p.kind, .int .i64 a.p.n, .int .i64 a.p.i, .string a.p.s, .int .i64 a.p.at_, .int .i64 a.p.line, .int .i64 a.p.col, .slice a1 a.p.l.length c1, .int .u8 a.e.kind, .int .i64 a.e.n, .int .i64 a.e.i, .string a.e.s, .int .i64 a.e.at_, .int .i64 a.e.line, .int .i64 a.e.col, .slice a2 a.e.l.length c2, .slice a3 a.e.arms.length c3] : Array Value)[j]? = some u → w2.cell? ⟨w.heap.size, j, none⟩ = some u := by
    intro j u hj
    refine (hb2.cell (p := ⟨w.heap.size, j, none⟩) (by simp)).trans ?_
    rw [(Blk.new w _ _ _ rfl).cell j]; exact hj
   have HCE := Lib.hid hcell
   have h02 : w2.cell? ⟨n0, 0, none⟩ = some (.pointer (some ⟨kb, 0, none⟩)) := (hb3.cell (p := ⟨n0, 0, none⟩) hn0).trans h0
   have hlow : ∀ W, Kept (Xs bb hb) w W → Below B w W := fun W hW => hW.low (by rintro k (rfl | rfl) <;> assumption) hB
   have hwc : Calls Tryz.prog 37 #[.pointer (some ⟨kb, 0, none⟩), .slice av nm.length capv, .func (.func 46) #[] #[.pointer (some ⟨n0, 0, none⟩), .pointer (some ⟨w.heap.size, 0, none⟩)]] w2 (Ans (a.may s tops st) bb hb n w2) := by
    rw [HM.out]
    exact (with_any nm (.slice av nm.length capv) 46 #[.pointer (some ⟨n0, 0, none⟩), .pointer (some ⟨w.heap.size, 0, none⟩)] kb bb hb n dv cv tv vars tops st (fun s1 => a.e.may s tops s1) w2
     hbt hkb hkh HI.out (hk.below hb3 hk.lt) (HH.out.below hb3) HO.out hn (by omega) enters_core51 (fun W s1 hW hh1 ho1 => by
      have hWm : w.heap.size < w2.heap.size := by simp at hs1; omega
      have hXm : ¬ Xs bb hb w.heap.size := Xs.not (by omega) (by omega)
      have hkw : Kept (Xs bb hb) w W := (Kept.of_below hb3).trans hW
      refine core51_any a _ n0 w.heap.size kb bb hb n B _ W ((cell_of_heap (hW.block n0 (Nat.lt_of_lt_of_le hn0 hb3s) hX0)).trans h02) (G2.out.keep (hlow W hkw)) ?_ (HC.out W _ s1 hkw (G2.out.keep (hlow W hkw)) hh1 ho1)
      intro j u hj
      refine (cell_of_heap (hW.block _ hWm hXm)).trans (hcell (8 + j) u ?_)
      match j, hj with
      | 0, h => exact h
      | 1, h => exact h
      | 2, h => exact h
      | 3, h => exact h
      | 4, h => exact h
      | 5, h => exact h
      | 6, h => exact h
      | 7, h => exact h
      | 8, h => exact h
      | j + 9, h => simp at h))
   rw [HOO.out] at hwc
   have HW := Lib.hid hwc
   clear ho2 hnm hii hcell hlow hnml hwc
   go_wp2_with fail
   refine HW.out.mono ?_
   rintro e w3 ⟨rfl, h3⟩
   have HR := Lib.hid h3
   obtain ⟨q, hq⟩ : ∃ q, o.isSome = q := ⟨_, rfl⟩
   have HQ := Lib.hid hq
   rw [hq]
   clear h3 hq
   have hfin : Ans o bb hb n w (.returned (.bool q)) w3 := by
    rw [← HQ.out]
    exact Ans.kept (Kept.of_below hb3) ⟨rfl, HR.out⟩
   have HFI := Lib.hid hfin
   clear hfin
   cases q
   all_goals
    go_wp2
    go_ret
    rw [HQ.out]
    exact ⟨rfl, HFI.out⟩
end Go.Proofs.YtdhodaefgliphaaGreatDoor
namespace Go.Proofs.YtdhodaefgliphaaGreatDoor
open Go.RowKit
namespace Core
theorem may_plain (s : Sig) (tops : Int) (c : Core) (st : Bnd) (h : bindAt c.kind = none) (h10 : c.kind ≠ 10) : c.may s tops st = if shapeC s tops c.kind c.n c.l c.arms.length st then alls s tops c.l st else none := by
 rw [may_eq, h]
 split
 ·rw [kids_none]
  simp only [if_neg h10, Option.isSome_none, Bool.false_eq_true, if_false]
  cases alls s tops c.l st <;> rfl
 ·rfl
theorem may_case (s : Sig) (tops : Int) (c : Core) (st : Bnd) (h10 : c.kind = 10) : c.may s tops st = if shapeC s tops 10 c.n c.l c.arms.length st then (alls s tops c.l st).bind fun s1 => CArm.mays s tops c.arms s1 else none := by
 rw [may_eq, h10]
 split
 ·rw [show bindAt 10 = none from rfl, kids_none]
  simp only [if_true]
 ·rfl
theorem may_bind (s : Sig) (tops : Int) (c : Core) (st : Bnd) (h : bindAt c.kind = some 0) (h10 : c.kind ≠ 10) (hl : c.l.length ≠ 0) : c.may s tops st = if shapeC s tops c.kind c.n c.l c.arms.length st then (((st.binds [c.n]).bind fun s1 => alls s tops c.l s1).map fun s2 => s2.drops [c.n]) else none := by
 rw [may_eq, h]
 split
 ·obtain ⟨t, r, hr⟩ : ∃ t r, c.l = t :: r := by
   cases hc : c.l with
   | nil => rw [hc] at hl; exact absurd rfl hl
   | cons t r => exact ⟨t, r, rfl⟩
  rw [hr, kids_zero]
  simp only [if_neg h10, Option.isSome_some, if_true, Bnd.binds]
  cases st.bind c.n with
  | none => rfl
  | some s1 =>
    simp only [Option.bind_some]
    cases alls s tops (t :: r) s1 <;> rfl
 ·rfl
theorem may_let (s : Sig) (tops : Int) (c : Core) (st : Bnd) (h : c.kind = 7) {a b : Core} (hl : c.l = [a, b]) : c.may s tops st = (alls s tops [a] st).bind fun s1 => ((s1.binds [c.n]).bind fun s2 => alls s tops [b] s2).map fun s2 => s2.drops [c.n] := by
 rw [may_eq, h, hl]
 rw [show shapeC s tops 7 c.n [a, b] c.arms.length st = true by simp [shapeC], if_pos rfl, show bindAt 7 = some 1 from rfl, kids_one]
 simp only [show ¬((7 : Int) = 10) by omega, if_false, Option.isSome_some, if_true]
 cases alls s tops [a] st with
 | none => rfl
 | some s1 =>
   simp only [Option.bind_some, Bnd.binds]
   cases s1.bind c.n with
   | none => rfl
   | some s2 =>
     simp only [Option.bind_some]
     cases alls s tops [b] s2 <;> rfl
end Core
namespace CArm
theorem mays_app (s : Sig) (tops : Int) : ∀ (l m : List CArm) (st : Bnd), mays s tops (l ++ m) st = (mays s tops l st).bind fun s1 => mays s tops m s1
 | [], m, st => rfl
 | t :: r, m, st => by
   simp only [List.cons_append, mays]
   cases t.may s tops st with
   | none => rfl
   | some s1 => exact mays_app s tops r m s1
theorem mays_take (s : Sig) (tops : Int) {l : List CArm} {k : Nat} (hk : k < l.length) {st s1 : Bnd} (h : mays s tops (l.take k) st = some s1) : mays s tops (l.take (k + 1)) st = l[k].may s tops s1 := by
 rw [List.take_succ_eq_append_getElem hk, mays_app, h]
 show (mays s tops [l[k]] s1) = _
 simp only [mays]
 cases l[k].may s tops s1 <;> rfl
theorem mays_stop (s : Sig) (tops : Int) {l : List CArm} {k : Nat} (hk : k < l.length) {st s1 : Bnd} (h : mays s tops (l.take k) st = some s1) (hn : l[k].may s tops s1 = none) : mays s tops l st = none := by
 rw [← List.take_append_drop (k + 1) l, mays_app, mays_take s tops hk h, hn]; rfl
end CArm
end Go.Proofs.YtdhodaefgliphaaGreatDoor
