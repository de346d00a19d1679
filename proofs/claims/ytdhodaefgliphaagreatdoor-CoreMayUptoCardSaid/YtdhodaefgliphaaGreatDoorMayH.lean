/- Contracts: looker.core. -/
import Derived.Test.YtdhodaefgliphaaGreatDoorMayG
import Derived.Deep.RegionHeld3
set_option linter.unusedVariables false
set_option linter.unusedSimpArgs false
namespace Go.Proofs.YtdhodaefgliphaaGreatDoor
open Go.RowKit
def CoreOk (s : Sig) (tops : Int) (B kb bb hb n N : Nat) (w : World) : Prop :=
 ∀ (c : Core) (us : List Value) (st : Bnd) (W : World), c.size ≤ N → c.size ≤ 1048576 → Kept (Xs bb hb) w W → Rds W B us c.d → Holds W bb hb 4 st → st.Of n →
   Calls Tryz.prog 14 #[.pointer (some ⟨kb, 0, none⟩), .agg us.toArray] W (Ans (c.may s tops st) bb hb n W)
theorem CoreOk.later {s : Sig} {tops : Int} {B kb bb hb n N : Nat} {w W : World} (h : CoreOk s tops B kb bb hb n N w) (k : Kept (Xs bb hb) w W) : CoreOk s tops B kb bb hb n N W :=
 fun c us st W2 h1 h2 h3 => h c us st W2 h1 h2 (k.trans h3)
theorem all_ok {s : Sig} {tops : Int} {B kb bb hb n N : Nat} {w : World} (ih : CoreOk s tops B kb bb hb n N w) (hB : B ≤ w.heap.size) (hBb : B ≤ bb) (hBh : B ≤ hb) (W : World) (l : List Core) (v : Value) (st : Bnd) (n0 : Nat)
  (hW : Kept (Xs bb hb) w W) (h0 : W.cell? ⟨n0, 0, none⟩ = some (.pointer (some ⟨kb, 0, none⟩))) (hn0 : n0 < W.heap.size) (hX0 : ¬ Xs bb hb n0) (hr : Rd w B v (.list 9 l.length (l.flatMap Core.d))) (hN : Core.sizes l ≤ N) (hsz : Core.sizes l ≤ 1048576)
  (hh : Holds W bb hb 4 st) (ho : st.Of n) : Calls Tryz.prog 34 #[v, .pointer (some ⟨n0, 0, none⟩)] W (Ans (Core.alls s tops l st) bb hb n W) := by
 have hlow : Below B w W := hW.low (by rintro k (rfl | rfl) <;> assumption) hB
 refine all_any s tops l v st n0 kb bb hb n B W h0 hn0 hX0 (hr.keep hlow) hBb hBh (Nat.le_trans hB hW.size) (by have := Core.sizes_len l; omega) hh ho ?_
 intro i hi W2 us s1 hW2 hus hh1 ho1
 have := Core.sizes_get l i hi
 exact ih l[i] us s1 W2 (by omega) (by omega) (hW.trans hW2) hus hh1 ho1
structure Pre (w W : World) (kb : Nat) (cs : Array Value) : Prop where
 bel : Below w.heap.size w W
 size : W.heap.size = w.heap.size + 3
 b0 : Blk W w.heap.size #[.pointer (some ⟨kb, 0, none⟩)] 56
 b1 : Blk W (w.heap.size + 1) cs 38
 b2 : Blk W (w.heap.size + 1 + 1) #[.func (.func 34) #[] #[.pointer (some ⟨w.heap.size, 0, none⟩)]] 100
theorem pre (w : World) (kb : Nat) (cs : Array Value) : Pre w (((w.alloc (.cells #[.pointer (some ⟨kb, 0, none⟩)] 56)).alloc (.cells cs 38)).alloc (.cells #[.func (.func 34) #[] #[.pointer (some ⟨w.heap.size, 0, none⟩)]] 100)) kb cs :=
 ⟨by (repeat (with_reducible first | exact Below.refl _ _ | refine Below.setCell ?_ ?_ _ | refine Below.alloc ?_ ?_ _ | refine Below.drewN ?_ _ | refine Below.drew ?_)) <;> first | omega | (simp; omega) | (simp; done), by simp, ((Blk.new w _ _ _ rfl).alloc _).alloc _, (Blk.new _ _ _ _ (by simp)).alloc _, Blk.new _ _ _ _ (by simp)⟩
theorem shape8 {s : Sig} {tops z : Int} {l : List Core} {na : Nat} {st : Bnd} (h : l.length = 2) (h0 : 0 < l.length) : shapeC s tops 8 z l na st = decide ((l[0]'h0).kind = 5) := by
 match l, h with
 | [a, b], _ => simp [shapeC]
theorem rd_two {w : World} {B b off cap : Nat} {x y : Core} (h : Rd w B (.slice (some ⟨b, off, none⟩) 2 cap) (.list 9 2 ([x, y].flatMap Core.d))) :
  Rd w B (.slice (some ⟨b, off, none⟩) 1 cap) (.list 9 [x].length ([x].flatMap Core.d)) ∧ Rd w B (.slice (some ⟨b, off + 9, none⟩) 1 (cap - 1)) (.list 9 [y].length ([y].flatMap Core.d)) ∧ 2 ≤ cap := by
 obtain ⟨b1, o1, c1, us, hv, hb, hc, hcell, hus⟩ := h.elem Core.d_len rfl 0 (by simp) (by omega)
 injection hv with ha _ hcap
 injection ha with ha
 injection ha with ha1 ha2
 subst ha1 ha2 hcap
 obtain ⟨b2, o2, c2, vs, hv, hb2, hc2, hcell2, hvs⟩ := h.elem Core.d_len rfl 1 (by simp) (by omega)
 injection hv with ha _ hcap
 injection ha with ha
 injection ha with ha1 ha2
 subst ha1 ha2 hcap
 simp only [List.length_cons, List.length_nil] at hc
 have l1 : us.length = 9 := by rw [← hus.1]; exact Core.d_len _
 have l2 : vs.length = 9 := by rw [← hvs.1]; exact Core.d_len _
 refine ⟨Rd.mk (xs := us) ⟨by rw [l1]; rfl, by unfold maxLen; simp, .inr ⟨b, off, cap, rfl, hb, by simp; omega, fun j u hj => ?_⟩⟩ (by simpa using hus), Rd.mk (xs := vs) ⟨by rw [l2]; rfl, by unfold maxLen; simp, .inr ⟨b, off + 9, cap - 1, rfl, hb, by simp; omega, fun j u hj => ?_⟩⟩ (by simpa using hvs), by omega⟩
 ·have := hcell j u hj
  simpa using this
 ·have := hcell2 j u hj
  simpa using this
theorem ints_one {w : World} {bb hb g : Nat} {z : Int} (hg : g = w.heap.size) (h1 : bb < w.heap.size) (h2 : hb < w.heap.size) : IntsAt (w.alloc (.cells #[.int .i64 z] 3)) bb hb (.slice (some ⟨g, 0, none⟩) 1 1) [z] := by
 subst hg
 refine .inr ⟨w.heap.size, 0, 1, rfl, Xs.not (by omega) (by omega), by simp, Nat.le_refl _, fun k hk => ?_⟩
 obtain rfl : k = 0 := by simp at hk; omega
 exact ((Blk.new w _ _ _ rfl).cell 0).trans rfl
theorem all0_ok {s : Sig} {tops : Int} {o : Option Bnd} {B kb bb hb n N : Nat} {w : World} (ih : CoreOk s tops B kb bb hb n N w) (hB : B ≤ w.heap.size) (hBb : B ≤ bb) (hBh : B ≤ hb) (W : World) (l : List Core) (v : Value) (st : Bnd) (n0 : Nat)
  (hW : Kept (Xs bb hb) w W) (h0 : W.cell? ⟨n0, 0, none⟩ = some (.pointer (some ⟨kb, 0, none⟩))) (hn0 : n0 < W.heap.size) (hX0 : ¬ Xs bb hb n0) (hr : Rd w B v (.list 9 l.length (l.flatMap Core.d))) (hN : Core.sizes l ≤ N) (hsz : Core.sizes l ≤ 1048576)
  (hh : Holds W bb hb 4 st) (ho : st.Of n) (hoo : o = Core.alls s tops l st) : Calls Tryz.prog 34 #[v, .pointer (some ⟨n0, 0, none⟩)] W (Ans o bb hb n w) := by
 subst hoo
 exact (all_ok ih hB hBb hBh W l v st n0 hW h0 hn0 hX0 hr hN hsz hh ho).mono fun e w' h => Ans.kept hW h
theorem arms_ok {s : Sig} {tops : Int} {o : Option Bnd} {B kb bb hb n N : Nat} {w : World} {dv cv tv : Value} {vars : Int} (hl : s.cons.length ≤ 1048576) (hf : ∀ i (h : i < s.cons.length), s.cons[i].fields.length ≤ 1048576) (ih : CoreOk s tops B kb bb hb n N w) (hB : B ≤ w.heap.size) (hBb : B ≤ bb) (hBh : B ≤ hb)
  (hbt : bb ≠ hb) (hkb : kb ≠ bb) (hkh : kb ≠ hb) (hn : n ≤ 1048576) (hk : Blk w kb (lkC dv cv tv vars tops bb hb n) 59) (hrc : Rd w B cv (.list 4 s.cons.length (s.cons.flatMap Con.d))) (W : World) (l : List CArm) (v : Value) (st : Bnd) (n0 : Nat)
  (hW : Kept (Xs bb hb) w W) (h0 : W.cell? ⟨n0, 0, none⟩ = some (.pointer (some ⟨kb, 0, none⟩))) (hn0 : n0 < W.heap.size) (hX0 : ¬ Xs bb hb n0) (hr : Rd w B v (.list 17 l.length (l.flatMap CArm.d))) (hN : CArm.sizes l ≤ N) (hsz : CArm.sizes l ≤ 1048576)
  (hh : Holds W bb hb 4 st) (ho : st.Of n) (hoo : o = CArm.mays s tops l st) : Calls Tryz.prog 43 #[v, .func (.func 44) #[] #[.pointer (some ⟨n0, 0, none⟩)]] W
    fun e w' => e = .returned (.bool (!o.isSome)) ∧ Ans o bb hb n w (.returned (.bool o.isSome)) w' := by
 subst hoo
 have hlow : ∀ W, Kept (Xs bb hb) w W → Below B w W := fun W hW => hW.low (by rintro k (rfl | rfl) <;> assumption) hB
 have hX : ¬ Xs bb hb kb := Xs.not hkb hkh
 refine (containsGCArm l v 44 #[.pointer (some ⟨n0, 0, none⟩)] B
  (fun i W2 => Kept (Xs bb hb) W W2 ∧ ∃ s1 : Bnd, CArm.mays s tops (l.take i) st = some s1 ∧ Holds W2 bb hb 4 s1 ∧ s1.Of n)
  (fun W2 => Kept (Xs bb hb) W W2 ∧ CArm.mays s tops l st = none ∧ ∃ s1 : Bnd, Holds W2 bb hb 4 s1 ∧ s1.Of n) W (by have := CArm.sizes_len l; omega) enters_core5 (hr.keep (hlow W hW)) (fun i W2 h => h.1.low (by rintro k (rfl | rfl) <;> assumption) (Nat.le_trans hB hW.size))
  ⟨Kept.refl _ _, st, rfl, hh, ho⟩ ?_).mono ?_
 ·rintro i hi W2 us ⟨hW2, s1, hs1, hh1, ho1⟩ hus
  have hsub := CArm.sizes_get l i hi
  have hkw := hW.trans hW2
  refine (arm_any s n0 kb bb hb n B dv cv tv vars tops hl hf l[i] us s1 W2 (by omega) (hkw.blk hk hX) (Nat.le_trans hB hkw.size) hBb hBh (hrc.keep (hlow W2 hkw)) hbt hkb hkh hn hus ((cell_of_heap (hW2.block n0 hn0 hX0)).trans h0) (Nat.lt_of_lt_of_le hn0 hW2.size) hX0 hh1 ho1 ?_).mono ?_
  ·intro W3 ue s2 hW3 hue hh2 ho2
   have := l[i].size_eq
   have := l[i].p.size_pos
   exact ih l[i].e ue s2 W3 (by omega) (by omega) (hkw.trans hW3) hue hh2 ho2
  ·rintro e w' ⟨rfl, hA⟩
   obtain ⟨-, hk2, s2, hh2, ho2, hs2⟩ := hA
   refine ⟨_, rfl, fun hb => ⟨hW2.trans hk2, ?_, s2, hh2, ho2⟩, fun hb => ⟨hW2.trans hk2, s2, ?_, hh2, ho2⟩⟩
   ·cases hm : l[i].may s tops s1 with
    | none => exact CArm.mays_stop s tops hi hs1 hm
    | some x => rw [hm] at hb; cases hb
   ·cases hm : l[i].may s tops s1 with
    | none => rw [hm] at hb; cases hb
    | some x => rw [CArm.mays_take s tops hi hs1, hm, hs2 x hm]
 ·rintro e w' ⟨b, rfl, hq, hi⟩
  cases b
  ·obtain ⟨hk2, s1, hs1, hh1, ho1⟩ := hi rfl
   rw [List.take_length] at hs1
   refine ⟨by rw [hs1]; rfl, rfl, hW.trans hk2, s1, hh1, ho1, fun x hx => by rw [hs1] at hx; injection hx⟩
  ·obtain ⟨hk2, hn', s1, hh1, ho1⟩ := hq rfl
   exact ⟨by rw [hn']; rfl, rfl, hW.trans hk2, s1, hh1, ho1, fun x hx => by rw [hn'] at hx; cases hx⟩
theorem with2_ok {s : Sig} {tops : Int} {o : Option Bnd} {B kb bb hb n N : Nat} {w W0 : World} {dv cv tv : Value} {vars : Int} (g : FuncId) (hg : g = 38 ∨ g = 40) (ih : CoreOk s tops B kb bb hb n N w) (hB : B ≤ w.heap.size) (hBb : B ≤ bb) (hBh : B ≤ hb)
  (hbt : bb ≠ hb) (hkb : kb ≠ bb) (hkh : kb ≠ hb) (hn : n ≤ 1048576) (hk : Blk w kb (lkC dv cv tv vars tops bb hb n) 59) (FB : Below w.heap.size w W0) (hsz : W0.heap.size = w.heap.size + 3) (l : List Core) (v : Value) (z : Int) (st : Bnd)
  (x0 : W0.cell? ⟨w.heap.size, 0, none⟩ = some (.pointer (some ⟨kb, 0, none⟩))) (x7 : W0.cell? ⟨w.heap.size + 1, 7, none⟩ = some v)
  (x2 : W0.cell? ⟨w.heap.size + 1 + 1, 0, none⟩ = some (.func (.func 34) #[] #[.pointer (some ⟨w.heap.size, 0, none⟩)]))
  (hr : Rd w B v (.list 9 l.length (l.flatMap Core.d))) (hN : Core.sizes l ≤ N) (hs : Core.sizes l ≤ 1048576) (hh : Holds w bb hb 4 st) (ho : st.Of n) (hoo : o = (((st.binds [z]).bind fun s1 => Core.alls s tops l s1).map fun s2 => s2.drops [z])) :
  Calls Tryz.prog 37 #[.pointer (some ⟨kb, 0, none⟩), .slice (some ⟨w.heap.size + 1 + 1 + 1, 0, none⟩) 1 1, .func (.func g) #[] #[.pointer (some ⟨w.heap.size + 1 + 1, 0, none⟩), .pointer (some ⟨w.heap.size + 1, 0, none⟩)]]
   (W0.alloc (.cells #[.int .i64 z] 3)) (Ans o bb hb n w) := by
 subst hoo
 have hbl := hh.been.lt
 have hhl := hh.here.lt
 have hkl := hk.lt
 have b1 : Below w.heap.size w (W0.alloc (.cells #[.int .i64 z] 3)) := FB.alloc (by omega) _
 have key : ∀ (W : World) (s1 : Bnd), Kept (Xs bb hb) (W0.alloc (.cells #[.int .i64 z] 3)) W → Holds W bb hb 4 s1 → s1.Of n →
   W.cell? ⟨w.heap.size + 1 + 1, 0, none⟩ = some (.func (.func 34) #[] #[.pointer (some ⟨w.heap.size, 0, none⟩)]) ∧ W.cell? ⟨w.heap.size + 1, 7, none⟩ = some v ∧
    Calls Tryz.prog 34 #[v, .pointer (some ⟨w.heap.size, 0, none⟩)] W (Ans (Core.alls s tops l s1) bb hb n W) := by
  intro W s1 hW hh1 ho1
  have hkw : Kept (Xs bb hb) w W := (Kept.of_below b1).trans hW
  have cat : ∀ (q j : Nat) (u : Value), w.heap.size ≤ q → q < w.heap.size + 3 → W0.cell? ⟨q, j, none⟩ = some u → W.cell? ⟨q, j, none⟩ = some u := fun q j u h1 h2 h3 =>
   (cell_of_heap (hW.block q (by simp; omega) (Xs.not (by omega) (by omega)))).trans (cell_al1 h3 (by show q < _; omega) _)
  exact ⟨cat _ _ _ (by omega) (by omega) x2, cat _ _ _ (by omega) (by omega) x7, all_ok ih hB hBb hBh W l v s1 w.heap.size hkw (cat _ _ _ (by omega) (by omega) x0) (by have := hW.size; simp at this; omega) (Xs.not (by omega) (by omega)) hr hN hs hh1 ho1⟩
 refine (with_any [z] _ g _ kb bb hb n dv cv tv vars tops st (fun s1 => Core.alls s tops l s1) _ hbt hkb hkh (ints_one (by omega) (by omega) (by omega)) (hk.below b1 hkl) (hh.below b1) ho hn (by simp) ?_ ?_).mono fun e w' h => Ans.kept (Kept.of_below b1) h
 ·rcases hg with rfl | rfl
  ·exact enters_core2
  ·exact enters_core4
 ·intro W s1 hW hh1 ho1
  obtain ⟨c2, c1, cc⟩ := key W s1 hW hh1 ho1
  rcases hg with rfl | rfl
  ·exact core2_any v w.heap.size (w.heap.size + 1) (w.heap.size + 1 + 1) bb hb n _ W c2 c1 cc
  ·exact core4_any v w.heap.size (w.heap.size + 1) (w.heap.size + 1 + 1) bb hb n _ W c2 c1 cc
theorem with3_ok {s : Sig} {tops : Int} {o : Option Bnd} {B kb bb hb n N : Nat} {w W1 : World} {dv cv tv : Value} {vars : Int} (ih : CoreOk s tops B kb bb hb n N w) (hB : B ≤ w.heap.size) (hBb : B ≤ bb) (hBh : B ≤ hb)
  (hbt : bb ≠ hb) (hkb : kb ≠ bb) (hkh : kb ≠ hb) (hn : n ≤ 1048576) (hk : Blk w kb (lkC dv cv tv vars tops bb hb n) 59) (hbl : bb < w.heap.size) (hhl : hb < w.heap.size) (hW : Kept (Xs bb hb) w W1) (hsz : w.heap.size + 3 ≤ W1.heap.size) (y : Core) (b off cap g : Nat) (z : Int) (st : Bnd)
  (hg : Blk W1 g #[.int .i64 z] 3) (hXg : ¬ Xs bb hb g)
  (x0 : W1.cell? ⟨w.heap.size, 0, none⟩ = some (.pointer (some ⟨kb, 0, none⟩))) (x7 : W1.cell? ⟨w.heap.size + 1, 7, none⟩ = some (.slice (some ⟨b, off, none⟩) 2 cap))
  (x2 : W1.cell? ⟨w.heap.size + 1 + 1, 0, none⟩ = some (.func (.func 34) #[] #[.pointer (some ⟨w.heap.size, 0, none⟩)]))
  (hr : Rd w B (.slice (some ⟨b, off + 9, none⟩) 1 (cap - 1)) (.list 9 [y].length ([y].flatMap Core.d))) (hcap : 2 ≤ cap) (hN : Core.sizes [y] ≤ N) (hs : Core.sizes [y] ≤ 1048576) (hh : Holds W1 bb hb 4 st) (ho : st.Of n) (hoo : o = (((st.binds [z]).bind fun s1 => Core.alls s tops [y] s1).map fun s2 => s2.drops [z])) :
  Calls Tryz.prog 37 #[.pointer (some ⟨kb, 0, none⟩), .slice (some ⟨g, 0, none⟩) 1 1, .func (.func 39) #[] #[.pointer (some ⟨w.heap.size + 1 + 1, 0, none⟩), .pointer (some ⟨w.heap.size + 1, 0, none⟩)]]
   W1 (Ans o bb hb n W1) := by
 subst hoo
 have hX : ¬ Xs bb hb kb := Xs.not hkb hkh
 have hints : IntsAt W1 bb hb (.slice (some ⟨g, 0, none⟩) 1 1) [z] := .inr ⟨g, 0, 1, rfl, hXg, hg.lt, Nat.le_refl _, fun k hk => by
  obtain rfl : k = 0 := by simp at hk; omega
  exact (hg.cell 0).trans rfl⟩
 refine (with_any [z] _ _ _ kb bb hb n dv cv tv vars tops st (fun s1 => Core.alls s tops [y] s1) W1 hbt hkb hkh hints (hW.blk hk hX) hh ho hn (by simp) enters_core3 ?_)
 intro W s1 hW2 hh1 ho1
 have cat : ∀ (q j : Nat) (u : Value), w.heap.size ≤ q → q < w.heap.size + 3 → W1.cell? ⟨q, j, none⟩ = some u → W.cell? ⟨q, j, none⟩ = some u := fun q j u h1 h2 h3 =>
  (cell_of_heap (hW2.block q (by omega) (Xs.not (by omega) (by omega)))).trans h3
 have hsw := hW2.size
 refine core3_any b off 1 cap w.heap.size (w.heap.size + 1) (w.heap.size + 1 + 1) bb hb n _ W (cat _ _ _ (by omega) (by omega) x2) (cat _ _ _ (by omega) (by omega) x7) (by omega) (by omega) (by omega) ?_
 intro W' hW' heq
 have hkw : Kept (Xs bb hb) w W' := (hW.trans hW2).trans hW'
 refine all_ok ih hB hBb hBh W' [y] _ s1 w.heap.size hkw ((cell_of_heap (by rw [heq])).trans (cat _ _ _ (by omega) (by omega) x0)) (by have := hW'.size; omega) (Xs.not (by omega) (by omega)) hr hN hs ⟨?_, ?_⟩ ho1
 ·exact hh1.been.of (by rw [heq])
 ·exact hh1.here.of (by rw [heq])
theorem four_kept {W0 w2 : World} {bb hb n0 n1 n2 : Nat} {u0 u1 u7 u2 : Value} (h0 : ¬ Xs bb hb n0) (h1 : ¬ Xs bb hb n1) (h2 : ¬ Xs bb hb n2) (hl : n0 < W0.heap.size ∧ n1 < W0.heap.size ∧ n2 < W0.heap.size)
  (h : W0.cell? ⟨n0, 0, none⟩ = some u0 ∧ W0.cell? ⟨n1, 1, none⟩ = some u1 ∧ W0.cell? ⟨n1, 7, none⟩ = some u7 ∧ W0.cell? ⟨n2, 0, none⟩ = some u2) (k : Kept (Xs bb hb) W0 w2) :
  (w2.cell? ⟨n0, 0, none⟩ = some u0 ∧ w2.cell? ⟨n1, 1, none⟩ = some u1 ∧ w2.cell? ⟨n1, 7, none⟩ = some u7 ∧ w2.cell? ⟨n2, 0, none⟩ = some u2) ∧ Kept (Xs bb hb) W0 w2 :=
 ⟨⟨(cell_of_heap (k.block n0 hl.1 h0)).trans h.1, (cell_of_heap (k.block n1 hl.2.1 h1)).trans h.2.1, (cell_of_heap (k.block n1 hl.2.1 h1)).trans h.2.2.1, (cell_of_heap (k.block n2 hl.2.2 h2)).trans h.2.2.2⟩, k⟩
set_option maxRecDepth 100000 in
set_option maxHeartbeats 4000000 in
theorem core_step (s : Sig) (tops : Int) (kb bb hb n B : Nat) (dv cv tv : Value) (vars : Int) (hl : s.cons.length ≤ 1048576) (hf : ∀ i (h : i < s.cons.length), s.cons[i].fields.length ≤ 1048576)
  (N : Nat) (c : Core) (us : List Value) (st : Bnd) (w : World) (ih : CoreOk s tops B kb bb hb n N w) (hN : c.size ≤ N + 1) (hsz : c.size ≤ 1048576)
  (hk : Blk w kb (lkC dv cv tv vars tops bb hb n) 59) (hB : B ≤ w.heap.size) (hBb : B ≤ bb) (hBh : B ≤ hb) (hr : Rd w B cv (.list 4 s.cons.length (s.cons.flatMap Con.d)))
  (hbt : bb ≠ hb) (hkb : kb ≠ bb) (hkh : kb ≠ hb) (hn : n ≤ 1048576) (hus : Rds w B us c.d) (hh : Holds w bb hb 4 st) (ho : st.Of n) :
  Calls Tryz.prog 14 #[.pointer (some ⟨kb, 0, none⟩), .agg us.toArray] w (Ans (c.may s tops st) bb hb n w) := by
 have hse := c.size_eq
 have hbl := hh.been.lt
 have hhl := hh.here.lt
 have hkl := hk.lt
 have k4 : w.cell? ⟨kb, 4, none⟩ = some (.int .i64 tops) := (hk.cell 4).trans rfl
 have k6 : w.cell? ⟨kb, 6, none⟩ = some (.slice (some ⟨hb, 0, none⟩) n n) := (hk.cell 6).trans rfl
 have hlen : c.l.length ≤ 1048576 := by have := Core.sizes_len c.l; omega
 have hlen2 : c.arms.length ≤ 1048576 := by have := CArm.sizes_len c.arms; omega
 obtain ⟨v7, v8, rfl, g7, g8, -⟩ := Core.cells hus
 have G7 := Lib.hid g7
 have G8 := Lib.hid g8
 obtain ⟨a7, c7, rfl⟩ := g7.slice_inv
 obtain ⟨a8, c8, rfl⟩ := g8.slice_inv
 have HH := Lib.hid hh
 have HO := Lib.hid ho
 have IH := Lib.hid ih
 clear hus g7 g8 hh ho ih
 have hin := enters_all
 unfold Enters at hin
 obtain ⟨o, hoo⟩ : ∃ o, c.may s tops st = o := ⟨_, rfl⟩
 rw [hoo]
 have HOO := Lib.hid hoo
 clear hoo
 obtain ⟨k, hck⟩ : ∃ x, c.kind = x := ⟨_, rfl⟩
 obtain ⟨z, hcn⟩ : ∃ x, c.n = x := ⟨_, rfl⟩
 obtain ⟨l, hcl⟩ : ∃ x, c.l = x := ⟨_, rfl⟩
 obtain ⟨arms, hca⟩ : ∃ x, c.arms = x := ⟨_, rfl⟩
 have HCK := Lib.hid hck
 have HCN := Lib.hid hcn
 have HCL := Lib.hid hcl
 have HCA := Lib.hid hca
 rw [hcl] at G7 hlen hse
 rw [hca] at G8 hlen2 hse
 rw [hck, hcn, hcl, hca]
 clear hck hcn hcl hca
 have hstLen := HO.out.2
 by_cases k1 : k = 1
 ·subst k1
  have HME := Lib.hid ((HOO.out.symm.trans (Core.may_plain s tops c st (by rw [HCK.out]; rfl) (by rw [HCK.out]; omega))).trans (by rw [HCK.out, HCN.out, HCL.out, HCA.out]))
  by_cases h0 : l.length = 0
  ·have e0 : ((l.length : Int) == 0) = true := by simp [h0]
   have hnil := List.eq_nil_of_length_eq_zero h0
   by_cases hz : 0 ≤ z
   ·obtain ⟨i, rfl⟩ := Int.eq_ofNat_of_zero_le hz
    have e1 : decide ((0 : Int) ≤ (i : Int)) = true := decide_eq_true (by omega)
    by_cases hi : i < n
    ·obtain ⟨q, hq⟩ : ∃ q, st.here[i]? = some q := ⟨_, List.getElem?_eq_getElem (by rw [HO.out.2]; exact hi)⟩
     have q6 : w.cell? ⟨hb, i, none⟩ = some (.bool q) := (HH.out.here.cell i).trans (bools_get _ _ _ hq)
     have e2 : decide ((i : Int) < (n : Int)) = true := decide_eq_true (by omega)
     have y7 := fun (W : World) (h : Below w.heap.size w W) => (h.cell (p := ⟨hb, i, none⟩) hhl).trans q6
     have Y7 := Lib.hid y7
     cases q
     ·
      have hm : o = none := by rw [HME.out, if_neg (by simp [shapeC, h0, hstLen, hq])]
      have HM := Lib.hid hm
      clear hm hse IH HCK HCN HCL HCA HOO HME hstLen
      clear hq h0 q6 y7 hnil
      go_enter Tryz.func14, Tryz.ntmps14
      go_wp2_with fail
      obtain ⟨W0, hW0⟩ : ∃ W, ((w.alloc (.cells #[.pointer (some ⟨kb, 0, none⟩)] 56)).alloc (.cells #[.int .u8 1, .int .i64 (i : Int), .int .i64 c.i, .string c.s, .int .i64 c.at_, .int .i64 c.line, .int .i64 c.col, .slice a7 l.length c7, .slice a8 arms.length c8] 38)).alloc (.cells #[.func (.func 34) #[] #[.pointer (some ⟨w.heap.size, 0, none⟩)]] 100) = W := ⟨_, rfl⟩
      have F := pre w kb #[.int .u8 1, .int .i64 (i : Int), .int .i64 c.i, .string c.s, .int .i64 c.at_, .int .i64 c.line, .int .i64 c.col, .slice a7 l.length c7, .slice a8 arms.length c8]
      rw [hW0] at F ⊢
      clear hW0
      have y4 := (F.bel.cell (p := ⟨kb, 4, none⟩) hkl).trans k4
      have y6 := (F.bel.cell (p := ⟨kb, 6, none⟩) hkl).trans k6
      have x0 : W0.cell? ⟨w.heap.size, 0, none⟩ = some (.pointer (some ⟨kb, 0, none⟩)) := (F.b0.cell 0).trans rfl
      have x1 : W0.cell? ⟨w.heap.size + 1, 1, none⟩ = some (.int .i64 (i : Int)) := (F.b1.cell 1).trans rfl
      have x7 : W0.cell? ⟨w.heap.size + 1, 7, none⟩ = some (.slice a7 l.length c7) := (F.b1.cell 7).trans rfl
      have x8 : W0.cell? ⟨w.heap.size + 1, 8, none⟩ = some (.slice a8 arms.length c8) := (F.b1.cell 8).trans rfl
      have x2 : W0.cell? ⟨w.heap.size + 1 + 1, 0, none⟩ = some (.func (.func 34) #[] #[.pointer (some ⟨w.heap.size, 0, none⟩)]) := (F.b2.cell 0).trans rfl
      have HSZ := Lib.hid F.size
      have FB := F.bel
      clear F
      have z7 := Y7.out W0 FB
      go_quiet (fail)
      go_wp2
      go_ret
      obtain rfl := HM.out
      exact ⟨rfl, by (repeat (with_reducible first | exact Kept.of_below FB | refine Kept.setNew ?_ ?_ _ | refine Kept.alloc ?_ _ | refine Kept.drewN ?_ _ | refine Kept.drew ?_)) <;> first | omega | (simp; omega) | (simp; done), st, Holds.drewN (HH.out.below FB) _, HO.out, fun x hx => by first | (cases hx; done) | (injection hx)⟩
     ·
      have hm : o = some st := by
       rw [HME.out, if_pos (by simp [shapeC, h0, hstLen, hi]; exact (List.getElem?_eq_some_iff.1 hq).2), hnil]; rfl
      have HM := Lib.hid hm
      clear hm hse IH HCK HCN HCL HCA HOO HME hstLen
      clear hq h0 q6 y7 hnil
      go_enter Tryz.func14, Tryz.ntmps14
      go_wp2_with fail
      obtain ⟨W0, hW0⟩ : ∃ W, ((w.alloc (.cells #[.pointer (some ⟨kb, 0, none⟩)] 56)).alloc (.cells #[.int .u8 1, .int .i64 (i : Int), .int .i64 c.i, .string c.s, .int .i64 c.at_, .int .i64 c.line, .int .i64 c.col, .slice a7 l.length c7, .slice a8 arms.length c8] 38)).alloc (.cells #[.func (.func 34) #[] #[.pointer (some ⟨w.heap.size, 0, none⟩)]] 100) = W := ⟨_, rfl⟩
      have F := pre w kb #[.int .u8 1, .int .i64 (i : Int), .int .i64 c.i, .string c.s, .int .i64 c.at_, .int .i64 c.line, .int .i64 c.col, .slice a7 l.length c7, .slice a8 arms.length c8]
      rw [hW0] at F ⊢
      clear hW0
      have y4 := (F.bel.cell (p := ⟨kb, 4, none⟩) hkl).trans k4
      have y6 := (F.bel.cell (p := ⟨kb, 6, none⟩) hkl).trans k6
      have x0 : W0.cell? ⟨w.heap.size, 0, none⟩ = some (.pointer (some ⟨kb, 0, none⟩)) := (F.b0.cell 0).trans rfl
      have x1 : W0.cell? ⟨w.heap.size + 1, 1, none⟩ = some (.int .i64 (i : Int)) := (F.b1.cell 1).trans rfl
      have x7 : W0.cell? ⟨w.heap.size + 1, 7, none⟩ = some (.slice a7 l.length c7) := (F.b1.cell 7).trans rfl
      have x8 : W0.cell? ⟨w.heap.size + 1, 8, none⟩ = some (.slice a8 arms.length c8) := (F.b1.cell 8).trans rfl
      have x2 : W0.cell? ⟨w.heap.size + 1 + 1, 0, none⟩ = some (.func (.func 34) #[] #[.pointer (some ⟨w.heap.size, 0, none⟩)]) := (F.b2.cell 0).trans rfl
      have HSZ := Lib.hid F.size
      have FB := F.bel
      clear F
      have z7 := Y7.out W0 FB
      go_quiet (fail)
      go_wp2
      go_ret
      obtain rfl := HM.out
      exact ⟨rfl, by (repeat (with_reducible first | exact Kept.of_below FB | refine Kept.setNew ?_ ?_ _ | refine Kept.alloc ?_ _ | refine Kept.drewN ?_ _ | refine Kept.drew ?_)) <;> first | omega | (simp; omega) | (simp; done), st, Holds.drewN (HH.out.below FB) _, HO.out, fun x hx => by first | (cases hx; done) | (injection hx)⟩
    ·have e2 : decide ((i : Int) < (n : Int)) = false := decide_eq_false (by omega)
     have hm : o = none := by rw [HME.out, if_neg (by simp [shapeC, h0, hstLen, hi])]
     have HM := Lib.hid hm
     clear hm hse IH HCK HCN HCL HCA HOO HME hstLen
     clear h0 hnil
     go_enter Tryz.func14, Tryz.ntmps14
     go_wp2_with fail
     obtain ⟨W0, hW0⟩ : ∃ W, ((w.alloc (.cells #[.pointer (some ⟨kb, 0, none⟩)] 56)).alloc (.cells #[.int .u8 1, .int .i64 (i : Int), .int .i64 c.i, .string c.s, .int .i64 c.at_, .int .i64 c.line, .int .i64 c.col, .slice a7 l.length c7, .slice a8 arms.length c8] 38)).alloc (.cells #[.func (.func 34) #[] #[.pointer (some ⟨w.heap.size, 0, none⟩)]] 100) = W := ⟨_, rfl⟩
     have F := pre w kb #[.int .u8 1, .int .i64 (i : Int), .int .i64 c.i, .string c.s, .int .i64 c.at_, .int .i64 c.line, .int .i64 c.col, .slice a7 l.length c7, .slice a8 arms.length c8]
     rw [hW0] at F ⊢
     clear hW0
     have y4 := (F.bel.cell (p := ⟨kb, 4, none⟩) hkl).trans k4
     have y6 := (F.bel.cell (p := ⟨kb, 6, none⟩) hkl).trans k6
     have x0 : W0.cell? ⟨w.heap.size, 0, none⟩ = some (.pointer (some ⟨kb, 0, none⟩)) := (F.b0.cell 0).trans rfl
     have x1 : W0.cell? ⟨w.heap.size + 1, 1, none⟩ = some (.int .i64 (i : Int)) := (F.b1.cell 1).trans rfl
     have x7 : W0.cell? ⟨w.heap.size + 1, 7, none⟩ = some (.slice a7 l.length c7) := (F.b1.cell 7).trans rfl
     have x8 : W0.cell? ⟨w.heap.size + 1, 8, none⟩ = some (.slice a8 arms.length c8) := (F.b1.cell 8).trans rfl
     have x2 : W0.cell? ⟨w.heap.size + 1 + 1, 0, none⟩ = some (.func (.func 34) #[] #[.pointer (some ⟨w.heap.size, 0, none⟩)]) := (F.b2.cell 0).trans rfl
     have HSZ := Lib.hid F.size
     have FB := F.bel
     clear F
     go_quiet (fail)
     go_wp2
     go_ret
     obtain rfl := HM.out
     exact ⟨rfl, by (repeat (with_reducible first | exact Kept.of_below FB | refine Kept.setNew ?_ ?_ _ | refine Kept.alloc ?_ _ | refine Kept.drewN ?_ _ | refine Kept.drew ?_)) <;> first | omega | (simp; omega) | (simp; done), st, Holds.drewN (HH.out.below FB) _, HO.out, fun x hx => by first | (cases hx; done) | (injection hx)⟩
   ·have e1 : decide ((0 : Int) ≤ z) = false := decide_eq_false (by omega)
    have hm : o = none := by rw [HME.out, if_neg (by simp [shapeC, h0, hz])]
    have HM := Lib.hid hm
    clear hm hse IH HCK HCN HCL HCA HOO HME hstLen
    clear h0 hnil
    go_enter Tryz.func14, Tryz.ntmps14
    go_wp2_with fail
    obtain ⟨W0, hW0⟩ : ∃ W, ((w.alloc (.cells #[.pointer (some ⟨kb, 0, none⟩)] 56)).alloc (.cells #[.int .u8 1, .int .i64 z, .int .i64 c.i, .string c.s, .int .i64 c.at_, .int .i64 c.line, .int .i64 c.col, .slice a7 l.length c7, .slice a8 arms.length c8] 38)).alloc (.cells #[.func (.func 34) #[] #[.pointer (some ⟨w.heap.size, 0, none⟩)]] 100) = W := ⟨_, rfl⟩
    have F := pre w kb #[.int .u8 1, .int .i64 z, .int .i64 c.i, .string c.s, .int .i64 c.at_, .int .i64 c.line, .int .i64 c.col, .slice a7 l.length c7, .slice a8 arms.length c8]
    rw [hW0] at F ⊢
    clear hW0
    have y4 := (F.bel.cell (p := ⟨kb, 4, none⟩) hkl).trans k4
    have y6 := (F.bel.cell (p := ⟨kb, 6, none⟩) hkl).trans k6
    have x0 : W0.cell? ⟨w.heap.size, 0, none⟩ = some (.pointer (some ⟨kb, 0, none⟩)) := (F.b0.cell 0).trans rfl
    have x1 : W0.cell? ⟨w.heap.size + 1, 1, none⟩ = some (.int .i64 z) := (F.b1.cell 1).trans rfl
    have x7 : W0.cell? ⟨w.heap.size + 1, 7, none⟩ = some (.slice a7 l.length c7) := (F.b1.cell 7).trans rfl
    have x8 : W0.cell? ⟨w.heap.size + 1, 8, none⟩ = some (.slice a8 arms.length c8) := (F.b1.cell 8).trans rfl
    have x2 : W0.cell? ⟨w.heap.size + 1 + 1, 0, none⟩ = some (.func (.func 34) #[] #[.pointer (some ⟨w.heap.size, 0, none⟩)]) := (F.b2.cell 0).trans rfl
    have HSZ := Lib.hid F.size
    have FB := F.bel
    clear F
    go_quiet (fail)
    go_wp2
    go_ret
    obtain rfl := HM.out
    exact ⟨rfl, by (repeat (with_reducible first | exact Kept.of_below FB | refine Kept.setNew ?_ ?_ _ | refine Kept.alloc ?_ _ | refine Kept.drewN ?_ _ | refine Kept.drew ?_)) <;> first | omega | (simp; omega) | (simp; done), st, Holds.drewN (HH.out.below FB) _, HO.out, fun x hx => by first | (cases hx; done) | (injection hx)⟩
  ·have e0 : ((l.length : Int) == 0) = false := by rw [nat_beq0]; simp [h0]
   have hm : o = none := by rw [HME.out, if_neg (by simp [shapeC, h0])]
   have HM := Lib.hid hm
   clear hm hse IH HCK HCN HCL HCA HOO HME hstLen
   clear h0
   go_enter Tryz.func14, Tryz.ntmps14
   go_wp2_with fail
   obtain ⟨W0, hW0⟩ : ∃ W, ((w.alloc (.cells #[.pointer (some ⟨kb, 0, none⟩)] 56)).alloc (.cells #[.int .u8 1, .int .i64 z, .int .i64 c.i, .string c.s, .int .i64 c.at_, .int .i64 c.line, .int .i64 c.col, .slice a7 l.length c7, .slice a8 arms.length c8] 38)).alloc (.cells #[.func (.func 34) #[] #[.pointer (some ⟨w.heap.size, 0, none⟩)]] 100) = W := ⟨_, rfl⟩
   have F := pre w kb #[.int .u8 1, .int .i64 z, .int .i64 c.i, .string c.s, .int .i64 c.at_, .int .i64 c.line, .int .i64 c.col, .slice a7 l.length c7, .slice a8 arms.length c8]
   rw [hW0] at F ⊢
   clear hW0
   have y4 := (F.bel.cell (p := ⟨kb, 4, none⟩) hkl).trans k4
   have y6 := (F.bel.cell (p := ⟨kb, 6, none⟩) hkl).trans k6
   have x0 : W0.cell? ⟨w.heap.size, 0, none⟩ = some (.pointer (some ⟨kb, 0, none⟩)) := (F.b0.cell 0).trans rfl
   have x1 : W0.cell? ⟨w.heap.size + 1, 1, none⟩ = some (.int .i64 z) := (F.b1.cell 1).trans rfl
   have x7 : W0.cell? ⟨w.heap.size + 1, 7, none⟩ = some (.slice a7 l.length c7) := (F.b1.cell 7).trans rfl
   have x8 : W0.cell? ⟨w.heap.size + 1, 8, none⟩ = some (.slice a8 arms.length c8) := (F.b1.cell 8).trans rfl
   have x2 : W0.cell? ⟨w.heap.size + 1 + 1, 0, none⟩ = some (.func (.func 34) #[] #[.pointer (some ⟨w.heap.size, 0, none⟩)]) := (F.b2.cell 0).trans rfl
   have HSZ := Lib.hid F.size
   have FB := F.bel
   clear F
   go_quiet (fail)
   go_wp2
   go_ret
   obtain rfl := HM.out
   exact ⟨rfl, by (repeat (with_reducible first | exact Kept.of_below FB | refine Kept.setNew ?_ ?_ _ | refine Kept.alloc ?_ _ | refine Kept.drewN ?_ _ | refine Kept.drew ?_)) <;> first | omega | (simp; omega) | (simp; done), st, Holds.drewN (HH.out.below FB) _, HO.out, fun x hx => by first | (cases hx; done) | (injection hx)⟩
 by_cases k2 : k = 2
 ·subst k2
  have HME := Lib.hid ((HOO.out.symm.trans (Core.may_plain s tops c st (by rw [HCK.out]; rfl) (by rw [HCK.out]; omega))).trans (by rw [HCK.out, HCN.out, HCL.out, HCA.out]))
  by_cases h0 : l.length = 0
  ·have e0 : ((l.length : Int) == 0) = true := by simp [h0]
   have hnil := List.eq_nil_of_length_eq_zero h0
   by_cases hz : 0 ≤ z
   ·have e1 : decide ((0 : Int) ≤ z) = true := decide_eq_true hz
    by_cases hi : z < tops
    ·have e2 : decide (z < tops) = true := decide_eq_true hi
     have hm : o = some st := by rw [HME.out, if_pos (by simp [shapeC, h0, hz, hi])]; rw [hnil]; rfl
     have HM := Lib.hid hm
     clear hm hse IH HCK HCN HCL HCA HOO HME hstLen
     clear h0 hnil
     go_enter Tryz.func14, Tryz.ntmps14
     go_wp2_with fail
     obtain ⟨W0, hW0⟩ : ∃ W, ((w.alloc (.cells #[.pointer (some ⟨kb, 0, none⟩)] 56)).alloc (.cells #[.int .u8 2, .int .i64 z, .int .i64 c.i, .string c.s, .int .i64 c.at_, .int .i64 c.line, .int .i64 c.col, .slice a7 l.length c7, .slice a8 arms.length c8] 38)).alloc (.cells #[.func (.func 34) #[] #[.pointer (some ⟨w.heap.size, 0, none⟩)]] 100) = W := ⟨_, rfl⟩
     have F := pre w kb #[.int .u8 2, .int .i64 z, .int .i64 c.i, .string c.s, .int .i64 c.at_, .int .i64 c.line, .int .i64 c.col, .slice a7 l.length c7, .slice a8 arms.length c8]
     rw [hW0] at F ⊢
     clear hW0
     have y4 := (F.bel.cell (p := ⟨kb, 4, none⟩) hkl).trans k4
     have y6 := (F.bel.cell (p := ⟨kb, 6, none⟩) hkl).trans k6
     have x0 : W0.cell? ⟨w.heap.size, 0, none⟩ = some (.pointer (some ⟨kb, 0, none⟩)) := (F.b0.cell 0).trans rfl
     have x1 : W0.cell? ⟨w.heap.size + 1, 1, none⟩ = some (.int .i64 z) := (F.b1.cell 1).trans rfl
     have x7 : W0.cell? ⟨w.heap.size + 1, 7, none⟩ = some (.slice a7 l.length c7) := (F.b1.cell 7).trans rfl
     have x8 : W0.cell? ⟨w.heap.size + 1, 8, none⟩ = some (.slice a8 arms.length c8) := (F.b1.cell 8).trans rfl
     have x2 : W0.cell? ⟨w.heap.size + 1 + 1, 0, none⟩ = some (.func (.func 34) #[] #[.pointer (some ⟨w.heap.size, 0, none⟩)]) := (F.b2.cell 0).trans rfl
     have HSZ := Lib.hid F.size
     have FB := F.bel
     clear F
     go_quiet (fail)
     go_wp2
     go_ret
     obtain rfl := HM.out
     exact ⟨rfl, by (repeat (with_reducible first | exact Kept.of_below FB | refine Kept.setNew ?_ ?_ _ | refine Kept.alloc ?_ _ | refine Kept.drewN ?_ _ | refine Kept.drew ?_)) <;> first | omega | (simp; omega) | (simp; done), st, Holds.drewN (HH.out.below FB) _, HO.out, fun x hx => by first | (cases hx; done) | (injection hx)⟩
    ·have e2 : decide (z < tops) = false := decide_eq_false hi
     have hm : o = none := by rw [HME.out, if_neg (by simp [shapeC, h0, hi])]
     have HM := Lib.hid hm
     clear hm hse IH HCK HCN HCL HCA HOO HME hstLen
     clear h0 hnil
     go_enter Tryz.func14, Tryz.ntmps14
     go_wp2_with fail
     obtain ⟨W0, hW0⟩ : ∃ W, ((w.alloc (.cells #[.pointer (some ⟨kb, 0, none⟩)] 56)).alloc (.cells #[.int .u8 2, .int .i64 z, .int .i64 c.i, .string c.s, .int .i64 c.at_, .int .i64 c.line, .int .i64 c.col, .slice a7 l.length c7, .slice a8 arms.length c8] 38)).alloc (.cells #[.func (.func 34) #[] #[.pointer (some ⟨w.heap.size, 0, none⟩)]] 100) = W := ⟨_, rfl⟩
     have F := pre w kb #[.int .u8 2, .int .i64 z, .int .i64 c.i, .string c.s, .int .i64 c.at_, .int .i64 c.line, .int .i64 c.col, .slice a7 l.length c7, .slice a8 arms.length c8]
     rw [hW0] at F ⊢
     clear hW0
     have y4 := (F.bel.cell (p := ⟨kb, 4, none⟩) hkl).trans k4
     have y6 := (F.bel.cell (p := ⟨kb, 6, none⟩) hkl).trans k6
     have x0 : W0.cell? ⟨w.heap.size, 0, none⟩ = some (.pointer (some ⟨kb, 0, none⟩)) := (F.b0.cell 0).trans rfl
     have x1 : W0.cell? ⟨w.heap.size + 1, 1, none⟩ = some (.int .i64 z) := (F.b1.cell 1).trans rfl
     have x7 : W0.cell? ⟨w.heap.size + 1, 7, none⟩ = some (.slice a7 l.length c7) := (F.b1.cell 7).trans rfl
     have x8 : W0.cell? ⟨w.heap.size + 1, 8, none⟩ = some (.slice a8 arms.length c8) := (F.b1.cell 8).trans rfl
     have x2 : W0.cell? ⟨w.heap.size + 1 + 1, 0, none⟩ = some (.func (.func 34) #[] #[.pointer (some ⟨w.heap.size, 0, none⟩)]) := (F.b2.cell 0).trans rfl
     have HSZ := Lib.hid F.size
     have FB := F.bel
     clear F
     go_quiet (fail)
     go_wp2
     go_ret
     obtain rfl := HM.out
     exact ⟨rfl, by (repeat (with_reducible first | exact Kept.of_below FB | refine Kept.setNew ?_ ?_ _ | refine Kept.alloc ?_ _ | refine Kept.drewN ?_ _ | refine Kept.drew ?_)) <;> first | omega | (simp; omega) | (simp; done), st, Holds.drewN (HH.out.below FB) _, HO.out, fun x hx => by first | (cases hx; done) | (injection hx)⟩
   ·have e1 : decide ((0 : Int) ≤ z) = false := decide_eq_false hz
    have hm : o = none := by rw [HME.out, if_neg (by simp [shapeC, h0, hz])]
    have HM := Lib.hid hm
    clear hm hse IH HCK HCN HCL HCA HOO HME hstLen
    clear h0 hnil
    go_enter Tryz.func14, Tryz.ntmps14
    go_wp2_with fail
    obtain ⟨W0, hW0⟩ : ∃ W, ((w.alloc (.cells #[.pointer (some ⟨kb, 0, none⟩)] 56)).alloc (.cells #[.int .u8 2, .int .i64 z, .int .i64 c.i, .string c.s, .int .i64 c.at_, .int .i64 c.line, .int .i64 c.col, .slice a7 l.length c7, .slice a8 arms.length c8] 38)).alloc (.cells #[.func (.func 34) #[] #[.pointer (some ⟨w.heap.size, 0, none⟩)]] 100) = W := ⟨_, rfl⟩
    have F := pre w kb #[.int .u8 2, .int .i64 z, .int .i64 c.i, .string c.s, .int .i64 c.at_, .int .i64 c.line, .int .i64 c.col, .slice a7 l.length c7, .slice a8 arms.length c8]
    rw [hW0] at F ⊢
    clear hW0
    have y4 := (F.bel.cell (p := ⟨kb, 4, none⟩) hkl).trans k4
    have y6 := (F.bel.cell (p := ⟨kb, 6, none⟩) hkl).trans k6
    have x0 : W0.cell? ⟨w.heap.size, 0, none⟩ = some (.pointer (some ⟨kb, 0, none⟩)) := (F.b0.cell 0).trans rfl
    have x1 : W0.cell? ⟨w.heap.size + 1, 1, none⟩ = some (.int .i64 z) := (F.b1.cell 1).trans rfl
    have x7 : W0.cell? ⟨w.heap.size + 1, 7, none⟩ = some (.slice a7 l.length c7) := (F.b1.cell 7).trans rfl
    have x8 : W0.cell? ⟨w.heap.size + 1, 8, none⟩ = some (.slice a8 arms.length c8) := (F.b1.cell 8).trans rfl
    have x2 : W0.cell? ⟨w.heap.size + 1 + 1, 0, none⟩ = some (.func (.func 34) #[] #[.pointer (some ⟨w.heap.size, 0, none⟩)]) := (F.b2.cell 0).trans rfl
    have HSZ := Lib.hid F.size
    have FB := F.bel
    clear F
    go_quiet (fail)
    go_wp2
    go_ret
    obtain rfl := HM.out
    exact ⟨rfl, by (repeat (with_reducible first | exact Kept.of_below FB | refine Kept.setNew ?_ ?_ _ | refine Kept.alloc ?_ _ | refine Kept.drewN ?_ _ | refine Kept.drew ?_)) <;> first | omega | (simp; omega) | (simp; done), st, Holds.drewN (HH.out.below FB) _, HO.out, fun x hx => by first | (cases hx; done) | (injection hx)⟩
  ·have e0 : ((l.length : Int) == 0) = false := by rw [nat_beq0]; simp [h0]
   have hm : o = none := by rw [HME.out, if_neg (by simp [shapeC, h0])]
   have HM := Lib.hid hm
   clear hm hse IH HCK HCN HCL HCA HOO HME hstLen
   clear h0
   go_enter Tryz.func14, Tryz.ntmps14
   go_wp2_with fail
   obtain ⟨W0, hW0⟩ : ∃ W, ((w.alloc (.cells #[.pointer (some ⟨kb, 0, none⟩)] 56)).alloc (.cells #[.int .u8 2, .int .i64 z, .int .i64 c.i, .string c.s, .int .i64 c.at_, .int .i64 c.line, .int .i64 c.col, .slice a7 l.length c7, .slice a8 arms.length c8] 38)).alloc (.cells #[.func (.func 34) #[] #[.pointer (some ⟨w.heap.size, 0, none⟩)]] 100) = W := ⟨_, rfl⟩
   have F := pre w kb #[.int .u8 2, .int .i64 z, .int .i64 c.i, .string c.s, .int .i64 c.at_, .int .i64 c.line, .int .i64 c.col, .slice a7 l.length c7, .slice a8 arms.length c8]
   rw [hW0] at F ⊢
   clear hW0
   have y4 := (F.bel.cell (p := ⟨kb, 4, none⟩) hkl).trans k4
   have y6 := (F.bel.cell (p := ⟨kb, 6, none⟩) hkl).trans k6
   have x0 : W0.cell? ⟨w.heap.size, 0, none⟩ = some (.pointer (some ⟨kb, 0, none⟩)) := (F.b0.cell 0).trans rfl
   have x1 : W0.cell? ⟨w.heap.size + 1, 1, none⟩ = some (.int .i64 z) := (F.b1.cell 1).trans rfl
   have x7 : W0.cell? ⟨w.heap.size + 1, 7, none⟩ = some (.slice a7 l.length c7) := (F.b1.cell 7).trans rfl
   have x8 : W0.cell? ⟨w.heap.size + 1, 8, none⟩ = some (.slice a8 arms.length c8) := (F.b1.cell 8).trans rfl
   have x2 : W0.cell? ⟨w.heap.size + 1 + 1, 0, none⟩ = some (.func (.func 34) #[] #[.pointer (some ⟨w.heap.size, 0, none⟩)]) := (F.b2.cell 0).trans rfl
   have HSZ := Lib.hid F.size
   have FB := F.bel
   clear F
   go_quiet (fail)
   go_wp2
   go_ret
   obtain rfl := HM.out
   exact ⟨rfl, by (repeat (with_reducible first | exact Kept.of_below FB | refine Kept.setNew ?_ ?_ _ | refine Kept.alloc ?_ _ | refine Kept.drewN ?_ _ | refine Kept.drew ?_)) <;> first | omega | (simp; omega) | (simp; done), st, Holds.drewN (HH.out.below FB) _, HO.out, fun x hx => by first | (cases hx; done) | (injection hx)⟩
 by_cases k3 : k = 3
 ·subst k3
  have HME := Lib.hid ((HOO.out.symm.trans (Core.may_plain s tops c st (by rw [HCK.out]; rfl) (by rw [HCK.out]; omega))).trans (by rw [HCK.out, HCN.out, HCL.out, HCA.out]))
  by_cases h0 : l.length = 0
  ·have e0 : ((l.length : Int) == 0) = true := by simp [h0]
   have hnil := List.eq_nil_of_length_eq_zero h0
   have hm : o = some st := by rw [HME.out, if_pos (by simp [shapeC, h0])]; rw [hnil]; rfl
   have HM := Lib.hid hm
   clear hm hse IH HCK HCN HCL HCA HOO HME hstLen
   clear h0 hnil
   go_enter Tryz.func14, Tryz.ntmps14
   go_wp2
   go_ret
   obtain rfl := HM.out
   exact ⟨rfl, by (repeat (with_reducible first | exact Kept.refl _ _ | refine Kept.setNew ?_ ?_ _ | refine Kept.alloc ?_ _ | refine Kept.drewN ?_ _ | refine Kept.drew ?_)) <;> first | omega | (simp; omega) | (simp; done), st, HH.out.below (by (repeat (with_reducible first | exact Below.refl _ _ | refine Below.setCell ?_ ?_ _ | refine Below.alloc ?_ ?_ _ | refine Below.drewN ?_ _ | refine Below.drew ?_)) <;> first | omega | (simp; omega) | (simp; done)), HO.out, fun x hx => by first | (cases hx; done) | (injection hx)⟩
  ·have e0 : ((l.length : Int) == 0) = false := by rw [nat_beq0]; simp [h0]
   have hm : o = none := by rw [HME.out, if_neg (by simp [shapeC, h0])]
   have HM := Lib.hid hm
   clear hm hse IH HCK HCN HCL HCA HOO HME hstLen
   clear h0
   go_enter Tryz.func14, Tryz.ntmps14
   go_wp2
   go_ret
   obtain rfl := HM.out
   exact ⟨rfl, by (repeat (with_reducible first | exact Kept.refl _ _ | refine Kept.setNew ?_ ?_ _ | refine Kept.alloc ?_ _ | refine Kept.drewN ?_ _ | refine Kept.drew ?_)) <;> first | omega | (simp; omega) | (simp; done), st, HH.out.below (by (repeat (with_reducible first | exact Below.refl _ _ | refine Below.setCell ?_ ?_ _ | refine Below.alloc ?_ ?_ _ | refine Below.drewN ?_ _ | refine Below.drew ?_)) <;> first | omega | (simp; omega) | (simp; done)), HO.out, fun x hx => by first | (cases hx; done) | (injection hx)⟩
 by_cases k4' : k = 4
 ·subst k4'
  have HME := Lib.hid ((HOO.out.symm.trans (Core.may_plain s tops c st (by rw [HCK.out]; rfl) (by rw [HCK.out]; omega))).trans (by rw [HCK.out, HCN.out, HCL.out, HCA.out]))
  by_cases h0 : l.length = 0
  ·have e0 : ((l.length : Int) == 0) = true := by simp [h0]
   have hnil := List.eq_nil_of_length_eq_zero h0
   have hm : o = some st := by rw [HME.out, if_pos (by simp [shapeC, h0])]; rw [hnil]; rfl
   have HM := Lib.hid hm
   clear hm hse IH HCK HCN HCL HCA HOO HME hstLen
   clear h0 hnil
   go_enter Tryz.func14, Tryz.ntmps14
   go_wp2
   go_ret
   obtain rfl := HM.out
   exact ⟨rfl, by (repeat (with_reducible first | exact Kept.refl _ _ | refine Kept.setNew ?_ ?_ _ | refine Kept.alloc ?_ _ | refine Kept.drewN ?_ _ | refine Kept.drew ?_)) <;> first | omega | (simp; omega) | (simp; done), st, HH.out.below (by (repeat (with_reducible first | exact Below.refl _ _ | refine Below.setCell ?_ ?_ _ | refine Below.alloc ?_ ?_ _ | refine Below.drewN ?_ _ | refine Below.drew ?_)) <;> first | omega | (simp; omega) | (simp; done)), HO.out, fun x hx => by first | (cases hx; done) | (injection hx)⟩
  ·have e0 : ((l.length : Int) == 0) = false := by rw [nat_beq0]; simp [h0]
   have hm : o = none := by rw [HME.out, if_neg (by simp [shapeC, h0])]
   have HM := Lib.hid hm
   clear hm hse IH HCK HCN HCL HCA HOO HME hstLen
   clear h0
   go_enter Tryz.func14, Tryz.ntmps14
   go_wp2
   go_ret
   obtain rfl := HM.out
   exact ⟨rfl, by (repeat (with_reducible first | exact Kept.refl _ _ | refine Kept.setNew ?_ ?_ _ | refine Kept.alloc ?_ _ | refine Kept.drewN ?_ _ | refine Kept.drew ?_)) <;> first | omega | (simp; omega) | (simp; done), st, HH.out.below (by (repeat (with_reducible first | exact Below.refl _ _ | refine Below.setCell ?_ ?_ _ | refine Below.alloc ?_ ?_ _ | refine Below.drewN ?_ _ | refine Below.drew ?_)) <;> first | omega | (simp; omega) | (simp; done)), HO.out, fun x hx => by first | (cases hx; done) | (injection hx)⟩
 by_cases k5 : k = 5
 ·subst k5
  by_cases h1 : l.length = 1
  ·have e0 : ((l.length : Int) == 1) = true := by simp [h1]
   have HME := Lib.hid ((HOO.out.symm.trans (Core.may_bind s tops c st (by rw [HCK.out]; rfl) (by rw [HCK.out]; omega) (by rw [HCL.out]; omega))).trans (by rw [HCK.out, HCN.out, HCL.out, HCA.out]))
   have hm := HME.out
   rw [if_pos (by simp [shapeC, h1])] at hm
   have HM := Lib.hid hm
   clear hm h1 HCK HCN HCL HCA HOO HME hstLen
   go_enter Tryz.func14, Tryz.ntmps14
   go_wp2_with fail
   obtain ⟨W0, hW0⟩ : ∃ W, ((w.alloc (.cells #[.pointer (some ⟨kb, 0, none⟩)] 56)).alloc (.cells #[.int .u8 5, .int .i64 z, .int .i64 c.i, .string c.s, .int .i64 c.at_, .int .i64 c.line, .int .i64 c.col, .slice a7 l.length c7, .slice a8 arms.length c8] 38)).alloc (.cells #[.func (.func 34) #[] #[.pointer (some ⟨w.heap.size, 0, none⟩)]] 100) = W := ⟨_, rfl⟩
   have F := pre w kb #[.int .u8 5, .int .i64 z, .int .i64 c.i, .string c.s, .int .i64 c.at_, .int .i64 c.line, .int .i64 c.col, .slice a7 l.length c7, .slice a8 arms.length c8]
   rw [hW0] at F ⊢
   clear hW0
   have y4 := (F.bel.cell (p := ⟨kb, 4, none⟩) hkl).trans k4
   have y6 := (F.bel.cell (p := ⟨kb, 6, none⟩) hkl).trans k6
   have x0 : W0.cell? ⟨w.heap.size, 0, none⟩ = some (.pointer (some ⟨kb, 0, none⟩)) := (F.b0.cell 0).trans rfl
   have x1 : W0.cell? ⟨w.heap.size + 1, 1, none⟩ = some (.int .i64 z) := (F.b1.cell 1).trans rfl
   have x7 : W0.cell? ⟨w.heap.size + 1, 7, none⟩ = some (.slice a7 l.length c7) := (F.b1.cell 7).trans rfl
   have x8 : W0.cell? ⟨w.heap.size + 1, 8, none⟩ = some (.slice a8 arms.length c8) := (F.b1.cell 8).trans rfl
   have x2 : W0.cell? ⟨w.heap.size + 1 + 1, 0, none⟩ = some (.func (.func 34) #[] #[.pointer (some ⟨w.heap.size, 0, none⟩)]) := (F.b2.cell 0).trans rfl
   have HSZ := Lib.hid F.size
   have FB := F.bel
   clear F
   refine (with2_ok 38 (.inl rfl) IH.out hB hBb hBh hbt hkb hkh hn hk FB HSZ.out l _ z st x0 x7 x2 G7.out (by omega) (by omega) HH.out HO.out HM.out).mono ?_
   rintro e w2 ⟨rfl, h3⟩
   have HR := Lib.hid h3
   obtain ⟨q, hq⟩ : ∃ q, o.isSome = q := ⟨_, rfl⟩
   have HQ := Lib.hid hq
   rw [hq]
   clear h3 hq
   go_wp2
   go_ret
   exact ⟨ret_b HQ.out.symm, HR.out⟩
  ·have e0 : ((l.length : Int) == 1) = false := by rw [show ((1 : Int)) = ((1 : Nat) : Int) from rfl, nat_beq]; simp [h1]
   have HME := Lib.hid ((HOO.out.symm.trans (Core.may_eq s tops c st)).trans (by rw [HCK.out, HCN.out, HCL.out, HCA.out]))
   have hm : o = none := by rw [HME.out, if_neg (by simp [shapeC, h1])]
   have HM := Lib.hid hm
   clear hm hse IH HCK HCN HCL HCA HOO HME hstLen
   clear h1
   go_enter Tryz.func14, Tryz.ntmps14
   go_wp2
   go_ret
   obtain rfl := HM.out
   exact ⟨rfl, by (repeat (with_reducible first | exact Kept.refl _ _ | refine Kept.setNew ?_ ?_ _ | refine Kept.alloc ?_ _ | refine Kept.drewN ?_ _ | refine Kept.drew ?_)) <;> first | omega | (simp; omega) | (simp; done), st, HH.out.below (by (repeat (with_reducible first | exact Below.refl _ _ | refine Below.setCell ?_ ?_ _ | refine Below.alloc ?_ ?_ _ | refine Below.drewN ?_ _ | refine Below.drew ?_)) <;> first | omega | (simp; omega) | (simp; done)), HO.out, fun x hx => by first | (cases hx; done) | (injection hx)⟩
 by_cases k6' : k = 6
 ·subst k6'
  have HME := Lib.hid ((HOO.out.symm.trans (Core.may_plain s tops c st (by rw [HCK.out]; rfl) (by rw [HCK.out]; omega))).trans (by rw [HCK.out, HCN.out, HCL.out, HCA.out]))
  by_cases h1 : l.length = 2
  ·have e0 : ((l.length : Int) == 2) = true := by simp [h1]
   have hm := HME.out
   rw [if_pos (by simp [shapeC, h1])] at hm
   have HM := Lib.hid hm
   clear hm h1 HCK HCN HCL HCA HOO HME hstLen
   go_enter Tryz.func14, Tryz.ntmps14
   go_wp2_with fail
   obtain ⟨W0, hW0⟩ : ∃ W, ((w.alloc (.cells #[.pointer (some ⟨kb, 0, none⟩)] 56)).alloc (.cells #[.int .u8 6, .int .i64 z, .int .i64 c.i, .string c.s, .int .i64 c.at_, .int .i64 c.line, .int .i64 c.col, .slice a7 l.length c7, .slice a8 arms.length c8] 38)).alloc (.cells #[.func (.func 34) #[] #[.pointer (some ⟨w.heap.size, 0, none⟩)]] 100) = W := ⟨_, rfl⟩
   have F := pre w kb #[.int .u8 6, .int .i64 z, .int .i64 c.i, .string c.s, .int .i64 c.at_, .int .i64 c.line, .int .i64 c.col, .slice a7 l.length c7, .slice a8 arms.length c8]
   rw [hW0] at F ⊢
   clear hW0
   have y4 := (F.bel.cell (p := ⟨kb, 4, none⟩) hkl).trans k4
   have y6 := (F.bel.cell (p := ⟨kb, 6, none⟩) hkl).trans k6
   have x0 : W0.cell? ⟨w.heap.size, 0, none⟩ = some (.pointer (some ⟨kb, 0, none⟩)) := (F.b0.cell 0).trans rfl
   have x1 : W0.cell? ⟨w.heap.size + 1, 1, none⟩ = some (.int .i64 z) := (F.b1.cell 1).trans rfl
   have x7 : W0.cell? ⟨w.heap.size + 1, 7, none⟩ = some (.slice a7 l.length c7) := (F.b1.cell 7).trans rfl
   have x8 : W0.cell? ⟨w.heap.size + 1, 8, none⟩ = some (.slice a8 arms.length c8) := (F.b1.cell 8).trans rfl
   have x2 : W0.cell? ⟨w.heap.size + 1 + 1, 0, none⟩ = some (.func (.func 34) #[] #[.pointer (some ⟨w.heap.size, 0, none⟩)]) := (F.b2.cell 0).trans rfl
   have HSZ := Lib.hid F.size
   have FB := F.bel
   clear F
   refine (all0_ok IH.out hB hBb hBh W0 l _ st w.heap.size (Kept.of_below FB) x0 (by have := HSZ.out; omega) (Xs.not (by omega) (by omega)) G7.out (by omega) (by omega) (HH.out.below FB) HO.out HM.out).mono ?_
   rintro e w2 ⟨rfl, h3⟩
   have HR := Lib.hid h3
   obtain ⟨q, hq⟩ : ∃ q, o.isSome = q := ⟨_, rfl⟩
   have HQ := Lib.hid hq
   rw [hq]
   clear h3 hq
   go_wp2
   go_ret
   exact ⟨ret_b HQ.out.symm, HR.out⟩
  ·have e0 : ((l.length : Int) == 2) = false := by rw [show ((2 : Int)) = ((2 : Nat) : Int) from rfl, nat_beq]; simp [h1]
   have hm : o = none := by rw [HME.out, if_neg (by simp [shapeC, h1])]
   have HM := Lib.hid hm
   clear hm hse IH HCK HCN HCL HCA HOO HME hstLen
   clear h1
   go_enter Tryz.func14, Tryz.ntmps14
   go_wp2
   go_ret
   obtain rfl := HM.out
   exact ⟨rfl, by (repeat (with_reducible first | exact Kept.refl _ _ | refine Kept.setNew ?_ ?_ _ | refine Kept.alloc ?_ _ | refine Kept.drewN ?_ _ | refine Kept.drew ?_)) <;> first | omega | (simp; omega) | (simp; done), st, HH.out.below (by (repeat (with_reducible first | exact Below.refl _ _ | refine Below.setCell ?_ ?_ _ | refine Below.alloc ?_ ?_ _ | refine Below.drewN ?_ _ | refine Below.drew ?_)) <;> first | omega | (simp; omega) | (simp; done)), HO.out, fun x hx => by first | (cases hx; done) | (injection hx)⟩
 by_cases k8 : k = 8
 ·subst k8
  by_cases h1 : l.length = 2
  ·have e0 : ((l.length : Int) == 2) = true := by simp [h1]
   have HL2 := Lib.hid h1
   obtain ⟨b, off, cap', us', hv, hb', hc, hcell, hus'⟩ := G7.out.elem Core.d_len rfl 0 (by omega) (by omega)
   injection hv with ha hn' hcap
   subst ha hcap
   obtain ⟨v7', v8', rfl, -⟩ := Core.cells hus'
   have hbw : b < w.heap.size := by omega
   have hB0 := hcell 0 _ rfl
   have hlowc : w.cell? ⟨b, off, none⟩ = some (.int .u8 (l[0]'(by omega)).kind) := by simpa using hB0
   have h8 := shape8 (s := s) (tops := tops) (z := z) (na := arms.length) (st := st) h1 (by omega)
   obtain ⟨K0, hK0⟩ : ∃ x, (l[0]'(by omega)).kind = x := ⟨_, rfl⟩
   rw [hK0] at hlowc h8
   clear hcell hus' hB0 hK0
   by_cases h5 : K0 = 5
   ·have e1 : (K0 == 5) = true := by simp [h5]
    have HME := Lib.hid ((HOO.out.symm.trans (Core.may_bind s tops c st (by rw [HCK.out]; rfl) (by rw [HCK.out]; omega) (by rw [HCL.out]; omega))).trans (by rw [HCK.out, HCN.out, HCL.out, HCA.out]))
    have hm := HME.out
    rw [h8, if_pos (by simp [h5])] at hm
    have HM := Lib.hid hm
    clear hm h1 h5 h8 HCK HCN HCL HCA HOO HME hstLen
    have c0 := cell_al3 hlowc hbw
    have hp0 : 0 < l.length := by rw [HL2.out]; omega
    clear hlowc
    go_enter Tryz.func14, Tryz.ntmps14
    go_wp2_with fail
    obtain ⟨W0, hW0⟩ : ∃ W, ((w.alloc (.cells #[.pointer (some ⟨kb, 0, none⟩)] 56)).alloc (.cells #[.int .u8 8, .int .i64 z, .int .i64 c.i, .string c.s, .int .i64 c.at_, .int .i64 c.line, .int .i64 c.col, .slice (some ⟨b, off, none⟩) l.length c7, .slice a8 arms.length c8] 38)).alloc (.cells #[.func (.func 34) #[] #[.pointer (some ⟨w.heap.size, 0, none⟩)]] 100) = W := ⟨_, rfl⟩
    have F := pre w kb #[.int .u8 8, .int .i64 z, .int .i64 c.i, .string c.s, .int .i64 c.at_, .int .i64 c.line, .int .i64 c.col, .slice (some ⟨b, off, none⟩) l.length c7, .slice a8 arms.length c8]
    rw [hW0] at F ⊢
    clear hW0
    have y4 := (F.bel.cell (p := ⟨kb, 4, none⟩) hkl).trans k4
    have y6 := (F.bel.cell (p := ⟨kb, 6, none⟩) hkl).trans k6
    have x0 : W0.cell? ⟨w.heap.size, 0, none⟩ = some (.pointer (some ⟨kb, 0, none⟩)) := (F.b0.cell 0).trans rfl
    have x1 : W0.cell? ⟨w.heap.size + 1, 1, none⟩ = some (.int .i64 z) := (F.b1.cell 1).trans rfl
    have x7 : W0.cell? ⟨w.heap.size + 1, 7, none⟩ = some (.slice (some ⟨b, off, none⟩) l.length c7) := (F.b1.cell 7).trans rfl
    have x8 : W0.cell? ⟨w.heap.size + 1, 8, none⟩ = some (.slice a8 arms.length c8) := (F.b1.cell 8).trans rfl
    have x2 : W0.cell? ⟨w.heap.size + 1 + 1, 0, none⟩ = some (.func (.func 34) #[] #[.pointer (some ⟨w.heap.size, 0, none⟩)]) := (F.b2.cell 0).trans rfl
    have HSZ := Lib.hid F.size
    have FB := F.bel
    clear F
    refine (with2_ok 40 (.inr rfl) IH.out hB hBb hBh hbt hkb hkh hn hk FB HSZ.out l _ z st x0 x7 x2 G7.out (by omega) (by omega) HH.out HO.out HM.out).mono ?_
    rintro e w2 ⟨rfl, h3⟩
    have HR := Lib.hid h3
    obtain ⟨q, hq⟩ : ∃ q, o.isSome = q := ⟨_, rfl⟩
    have HQ := Lib.hid hq
    rw [hq]
    clear h3 hq
    go_wp2
    go_ret
    exact ⟨ret_b HQ.out.symm, HR.out⟩
   ·have e1 : (K0 == 5) = false := by simp [h5]
    have HME := Lib.hid ((HOO.out.symm.trans (Core.may_eq s tops c st)).trans (by rw [HCK.out, HCN.out, HCL.out, HCA.out]))
    have hm : o = none := by rw [HME.out, h8, if_neg (by simp [h5])]
    have HM := Lib.hid hm
    have c0 := cell_al3 hlowc hbw
    have hp0 : 0 < l.length := by rw [HL2.out]; omega
    clear hm hse IH HCK HCN HCL HCA HOO HME hstLen h1 h5 h8 hlowc
    go_enter Tryz.func14, Tryz.ntmps14
    go_wp2
    go_ret
    obtain rfl := HM.out
    exact ⟨rfl, by (repeat (with_reducible first | exact Kept.refl _ _ | refine Kept.setNew ?_ ?_ _ | refine Kept.alloc ?_ _ | refine Kept.drewN ?_ _ | refine Kept.drew ?_)) <;> first | omega | (simp; omega) | (simp; done), st, HH.out.below (by (repeat (with_reducible first | exact Below.refl _ _ | refine Below.setCell ?_ ?_ _ | refine Below.alloc ?_ ?_ _ | refine Below.drewN ?_ _ | refine Below.drew ?_)) <;> first | omega | (simp; omega) | (simp; done)), HO.out, fun x hx => by first | (cases hx; done) | (injection hx)⟩
  ·have e0 : ((l.length : Int) == 2) = false := by rw [show ((2 : Int)) = ((2 : Nat) : Int) from rfl, nat_beq]; simp [h1]
   have HME := Lib.hid ((HOO.out.symm.trans (Core.may_eq s tops c st)).trans (by rw [HCK.out, HCN.out, HCL.out, HCA.out]))
   have hm : o = none := by rw [HME.out, if_neg (by simp [shapeC, h1])]
   have HM := Lib.hid hm
   clear hm hse IH HCK HCN HCL HCA HOO HME hstLen h1
   go_enter Tryz.func14, Tryz.ntmps14
   go_wp2
   go_ret
   obtain rfl := HM.out
   exact ⟨rfl, by (repeat (with_reducible first | exact Kept.refl _ _ | refine Kept.setNew ?_ ?_ _ | refine Kept.alloc ?_ _ | refine Kept.drewN ?_ _ | refine Kept.drew ?_)) <;> first | omega | (simp; omega) | (simp; done), st, HH.out.below (by (repeat (with_reducible first | exact Below.refl _ _ | refine Below.setCell ?_ ?_ _ | refine Below.alloc ?_ ?_ _ | refine Below.drewN ?_ _ | refine Below.drew ?_)) <;> first | omega | (simp; omega) | (simp; done)), HO.out, fun x hx => by first | (cases hx; done) | (injection hx)⟩
 by_cases k9 : k = 9
 ·subst k9
  have HME := Lib.hid ((HOO.out.symm.trans (Core.may_plain s tops c st (by rw [HCK.out]; rfl) (by rw [HCK.out]; omega))).trans (by rw [HCK.out, HCN.out, HCL.out, HCA.out]))
  have HAS := Lib.hid (show o = if s.has z l.length = true then Core.alls s tops l st else none from HME.out)
  clear HCK HCN HCL HCA HOO HME hstLen
  go_enter Tryz.func14, Tryz.ntmps14
  go_wp2_with fail
  obtain ⟨W0, hW0⟩ : ∃ W, ((w.alloc (.cells #[.pointer (some ⟨kb, 0, none⟩)] 56)).alloc (.cells #[.int .u8 9, .int .i64 z, .int .i64 c.i, .string c.s, .int .i64 c.at_, .int .i64 c.line, .int .i64 c.col, .slice a7 l.length c7, .slice a8 arms.length c8] 38)).alloc (.cells #[.func (.func 34) #[] #[.pointer (some ⟨w.heap.size, 0, none⟩)]] 100) = W := ⟨_, rfl⟩
  have F := pre w kb #[.int .u8 9, .int .i64 z, .int .i64 c.i, .string c.s, .int .i64 c.at_, .int .i64 c.line, .int .i64 c.col, .slice a7 l.length c7, .slice a8 arms.length c8]
  rw [hW0] at F ⊢
  clear hW0
  have y4 := (F.bel.cell (p := ⟨kb, 4, none⟩) hkl).trans k4
  have y6 := (F.bel.cell (p := ⟨kb, 6, none⟩) hkl).trans k6
  have x0 : W0.cell? ⟨w.heap.size, 0, none⟩ = some (.pointer (some ⟨kb, 0, none⟩)) := (F.b0.cell 0).trans rfl
  have x1 : W0.cell? ⟨w.heap.size + 1, 1, none⟩ = some (.int .i64 z) := (F.b1.cell 1).trans rfl
  have x7 : W0.cell? ⟨w.heap.size + 1, 7, none⟩ = some (.slice a7 l.length c7) := (F.b1.cell 7).trans rfl
  have x8 : W0.cell? ⟨w.heap.size + 1, 8, none⟩ = some (.slice a8 arms.length c8) := (F.b1.cell 8).trans rfl
  have x2 : W0.cell? ⟨w.heap.size + 1 + 1, 0, none⟩ = some (.func (.func 34) #[] #[.pointer (some ⟨w.heap.size, 0, none⟩)]) := (F.b2.cell 0).trans rfl
  have HSZ := Lib.hid F.size
  have FB := F.bel
  clear F
  refine (has_any s kb l.length z dv cv tv vars tops bb hb n B W0 (hk.below FB hkl) (Nat.le_trans hB FB.size) (hr.keep (FB.mono hB)) hlen hl hf).mono ?_
  rintro e w2 ⟨rfl, hb2⟩
  have FB2 : Below w.heap.size w w2 := FB.trans (hb2.mono FB.size)
  have s0 := HSZ.out
  have x0' := (hb2.cell (p := ⟨w.heap.size, 0, none⟩) (by show w.heap.size < _; omega)).trans x0
  have x2' := (hb2.cell (p := ⟨w.heap.size + 1 + 1, 0, none⟩) (by show w.heap.size + 1 + 1 < _; omega)).trans x2
  have x7' := (hb2.cell (p := ⟨w.heap.size + 1, 7, none⟩) (by show w.heap.size + 1 < _; omega)).trans x7
  have s2 := hb2.size
  have S0 := Lib.hid s0
  clear s0 hb2
  obtain ⟨q, hq⟩ : ∃ q, s.has z l.length = q := ⟨_, rfl⟩
  have HAS2 := Lib.hid (show o = if q = true then Core.alls s tops l st else none by rw [← hq]; exact HAS.out)
  rw [hq]
  clear hq HAS
  cases q
  ·have hm : o = none := HAS2.out
   have HM := Lib.hid hm
   clear hm HAS2
   go_wp2
   go_ret
   obtain rfl := HM.out
   exact ⟨rfl, Kept.of_below FB2, st, HH.out.below FB2, HO.out, fun x hx => by cases hx⟩
  ·have HM := Lib.hid (show o = Core.alls s tops l st from HAS2.out)
   clear HAS2
   go_wp2_with fail
   refine (all0_ok IH.out hB hBb hBh w2 l _ st w.heap.size (Kept.of_below FB2) x0' (by have := S0.out; omega) (Xs.not (by omega) (by omega)) G7.out (by omega) (by omega) (HH.out.below FB2) HO.out HM.out).mono ?_
   rintro e w3 ⟨rfl, h3⟩
   have HR := Lib.hid h3
   obtain ⟨q, hq⟩ : ∃ q, o.isSome = q := ⟨_, rfl⟩
   have HQ := Lib.hid hq
   rw [hq]
   clear h3 hq
   go_wp2
   go_ret
   exact ⟨ret_b HQ.out.symm, HR.out⟩
 by_cases k11 : k = 11
 ·subst k11
  have HME := Lib.hid ((HOO.out.symm.trans (Core.may_plain s tops c st (by rw [HCK.out]; rfl) (by rw [HCK.out]; omega))).trans (by rw [HCK.out, HCN.out, HCL.out, HCA.out]))
  by_cases ht : takesZ z = (l.length : Int)
  ·have e0 : (takesZ z == (l.length : Int)) = true := by simp [ht]
   by_cases hp : 0 < l.length
   ·have e1 : decide ((0 : Int) < (l.length : Int)) = true := decide_eq_true (by omega)
    have hm := HME.out
    rw [if_pos (by simp [shapeC, ht, hp])] at hm
    have HM := Lib.hid hm
    obtain ⟨T, hT⟩ : ∃ x, takesZ z = x := ⟨_, rfl⟩
    have HT := Lib.hid hT
    rw [hT] at e0
    clear hm ht hT HCK HCN HCL HCA HOO HME hstLen
    go_enter Tryz.func14, Tryz.ntmps14
    go_wp2_with fail
    obtain ⟨W0, hW0⟩ : ∃ W, ((w.alloc (.cells #[.pointer (some ⟨kb, 0, none⟩)] 56)).alloc (.cells #[.int .u8 11, .int .i64 z, .int .i64 c.i, .string c.s, .int .i64 c.at_, .int .i64 c.line, .int .i64 c.col, .slice a7 l.length c7, .slice a8 arms.length c8] 38)).alloc (.cells #[.func (.func 34) #[] #[.pointer (some ⟨w.heap.size, 0, none⟩)]] 100) = W := ⟨_, rfl⟩
    have F := pre w kb #[.int .u8 11, .int .i64 z, .int .i64 c.i, .string c.s, .int .i64 c.at_, .int .i64 c.line, .int .i64 c.col, .slice a7 l.length c7, .slice a8 arms.length c8]
    rw [hW0] at F ⊢
    clear hW0
    have y4 := (F.bel.cell (p := ⟨kb, 4, none⟩) hkl).trans k4
    have y6 := (F.bel.cell (p := ⟨kb, 6, none⟩) hkl).trans k6
    have x0 : W0.cell? ⟨w.heap.size, 0, none⟩ = some (.pointer (some ⟨kb, 0, none⟩)) := (F.b0.cell 0).trans rfl
    have x1 : W0.cell? ⟨w.heap.size + 1, 1, none⟩ = some (.int .i64 z) := (F.b1.cell 1).trans rfl
    have x7 : W0.cell? ⟨w.heap.size + 1, 7, none⟩ = some (.slice a7 l.length c7) := (F.b1.cell 7).trans rfl
    have x8 : W0.cell? ⟨w.heap.size + 1, 8, none⟩ = some (.slice a8 arms.length c8) := (F.b1.cell 8).trans rfl
    have x2 : W0.cell? ⟨w.heap.size + 1 + 1, 0, none⟩ = some (.func (.func 34) #[] #[.pointer (some ⟨w.heap.size, 0, none⟩)]) := (F.b2.cell 0).trans rfl
    have HSZ := Lib.hid F.size
    have FB := F.bel
    clear F
    refine (takes_any z W0).mono ?_
    rintro e w2 ⟨rfl, hw2⟩
    subst hw2
    rw [HT.out]
    go_wp2_with fail
    refine (all0_ok IH.out hB hBb hBh _ l _ st w.heap.size (Kept.of_below FB) x0 (by have := HSZ.out; omega) (Xs.not (by omega) (by omega)) G7.out (by omega) (by omega) (HH.out.below FB) HO.out HM.out).mono ?_
    rintro e w3 ⟨rfl, h3⟩
    have HR := Lib.hid h3
    obtain ⟨q, hq⟩ : ∃ q, o.isSome = q := ⟨_, rfl⟩
    have HQ := Lib.hid hq
    rw [hq]
    clear h3 hq
    go_wp2
    go_ret
    exact ⟨ret_b HQ.out.symm, HR.out⟩
   ·have e1 : decide ((0 : Int) < (l.length : Int)) = false := decide_eq_false (by omega)
    have hm : o = none := by rw [HME.out, if_neg (by simp [shapeC, hp])]
    have HM := Lib.hid hm
    obtain ⟨T, hT⟩ : ∃ x, takesZ z = x := ⟨_, rfl⟩
    have HT := Lib.hid hT
    rw [hT] at e0
    clear hm ht hT hse IH HCK HCN HCL HCA HOO HME hstLen
    go_enter Tryz.func14, Tryz.ntmps14
    go_wp2_with fail
    obtain ⟨W0, hW0⟩ : ∃ W, ((w.alloc (.cells #[.pointer (some ⟨kb, 0, none⟩)] 56)).alloc (.cells #[.int .u8 11, .int .i64 z, .int .i64 c.i, .string c.s, .int .i64 c.at_, .int .i64 c.line, .int .i64 c.col, .slice a7 l.length c7, .slice a8 arms.length c8] 38)).alloc (.cells #[.func (.func 34) #[] #[.pointer (some ⟨w.heap.size, 0, none⟩)]] 100) = W := ⟨_, rfl⟩
    have F := pre w kb #[.int .u8 11, .int .i64 z, .int .i64 c.i, .string c.s, .int .i64 c.at_, .int .i64 c.line, .int .i64 c.col, .slice a7 l.length c7, .slice a8 arms.length c8]
    rw [hW0] at F ⊢
    clear hW0
    have y4 := (F.bel.cell (p := ⟨kb, 4, none⟩) hkl).trans k4
    have y6 := (F.bel.cell (p := ⟨kb, 6, none⟩) hkl).trans k6
    have x0 : W0.cell? ⟨w.heap.size, 0, none⟩ = some (.pointer (some ⟨kb, 0, none⟩)) := (F.b0.cell 0).trans rfl
    have x1 : W0.cell? ⟨w.heap.size + 1, 1, none⟩ = some (.int .i64 z) := (F.b1.cell 1).trans rfl
    have x7 : W0.cell? ⟨w.heap.size + 1, 7, none⟩ = some (.slice a7 l.length c7) := (F.b1.cell 7).trans rfl
    have x8 : W0.cell? ⟨w.heap.size + 1, 8, none⟩ = some (.slice a8 arms.length c8) := (F.b1.cell 8).trans rfl
    have x2 : W0.cell? ⟨w.heap.size + 1 + 1, 0, none⟩ = some (.func (.func 34) #[] #[.pointer (some ⟨w.heap.size, 0, none⟩)]) := (F.b2.cell 0).trans rfl
    have HSZ := Lib.hid F.size
    have FB := F.bel
    clear F
    refine (takes_any z W0).mono ?_
    rintro e w2 ⟨rfl, hw2⟩
    subst hw2
    rw [HT.out]
    go_wp2
    go_ret
    obtain rfl := HM.out
    exact ⟨rfl, Kept.of_below FB, st, HH.out.below FB, HO.out, fun x hx => by first | (cases hx; done) | (injection hx)⟩
  ·have e0 : (takesZ z == (l.length : Int)) = false := by simp [ht]
   have hm : o = none := by rw [HME.out, if_neg (by simp [shapeC, ht])]
   have HM := Lib.hid hm
   obtain ⟨T, hT⟩ : ∃ x, takesZ z = x := ⟨_, rfl⟩
   have HT := Lib.hid hT
   rw [hT] at e0
   clear hm ht hT hse IH HCK HCN HCL HCA HOO HME hstLen
   go_enter Tryz.func14, Tryz.ntmps14
   go_wp2_with fail
   obtain ⟨W0, hW0⟩ : ∃ W, ((w.alloc (.cells #[.pointer (some ⟨kb, 0, none⟩)] 56)).alloc (.cells #[.int .u8 11, .int .i64 z, .int .i64 c.i, .string c.s, .int .i64 c.at_, .int .i64 c.line, .int .i64 c.col, .slice a7 l.length c7, .slice a8 arms.length c8] 38)).alloc (.cells #[.func (.func 34) #[] #[.pointer (some ⟨w.heap.size, 0, none⟩)]] 100) = W := ⟨_, rfl⟩
   have F := pre w kb #[.int .u8 11, .int .i64 z, .int .i64 c.i, .string c.s, .int .i64 c.at_, .int .i64 c.line, .int .i64 c.col, .slice a7 l.length c7, .slice a8 arms.length c8]
   rw [hW0] at F ⊢
   clear hW0
   have y4 := (F.bel.cell (p := ⟨kb, 4, none⟩) hkl).trans k4
   have y6 := (F.bel.cell (p := ⟨kb, 6, none⟩) hkl).trans k6
   have x0 : W0.cell? ⟨w.heap.size, 0, none⟩ = some (.pointer (some ⟨kb, 0, none⟩)) := (F.b0.cell 0).trans rfl
   have x1 : W0.cell? ⟨w.heap.size + 1, 1, none⟩ = some (.int .i64 z) := (F.b1.cell 1).trans rfl
   have x7 : W0.cell? ⟨w.heap.size + 1, 7, none⟩ = some (.slice a7 l.length c7) := (F.b1.cell 7).trans rfl
   have x8 : W0.cell? ⟨w.heap.size + 1, 8, none⟩ = some (.slice a8 arms.length c8) := (F.b1.cell 8).trans rfl
   have x2 : W0.cell? ⟨w.heap.size + 1 + 1, 0, none⟩ = some (.func (.func 34) #[] #[.pointer (some ⟨w.heap.size, 0, none⟩)]) := (F.b2.cell 0).trans rfl
   have HSZ := Lib.hid F.size
   have FB := F.bel
   clear F
   refine (takes_any z W0).mono ?_
   rintro e w2 ⟨rfl, hw2⟩
   subst hw2
   rw [HT.out]
   go_wp2
   go_ret
   obtain rfl := HM.out
   exact ⟨rfl, Kept.of_below FB, st, HH.out.below FB, HO.out, fun x hx => by first | (cases hx; done) | (injection hx)⟩
 by_cases k10 : k = 10
 ·subst k10
  have HME := Lib.hid ((HOO.out.symm.trans (Core.may_case s tops c st HCK.out)).trans (by rw [HCN.out, HCL.out, HCA.out]))
  by_cases h1 : l.length = 1
  ·have e0 : ((l.length : Int) == 1) = true := by simp [h1]
   by_cases hp : 0 < arms.length
   ·have e1 : decide ((0 : Int) < (arms.length : Int)) = true := decide_eq_true (by omega)
    have hm := HME.out
    rw [if_pos (by simp [shapeC, h1, hp])] at hm
    obtain ⟨o1, ho1⟩ : ∃ o1, Core.alls s tops l st = o1 := ⟨_, rfl⟩
    rw [ho1] at hm
    have HM := Lib.hid hm
    have HO1 := Lib.hid ho1
    clear hm h1 ho1 HCK HCN HCL HCA HOO HME hstLen
    go_enter Tryz.func14, Tryz.ntmps14
    go_wp2_with fail
    obtain ⟨W0, hW0⟩ : ∃ W, ((w.alloc (.cells #[.pointer (some ⟨kb, 0, none⟩)] 56)).alloc (.cells #[.int .u8 10, .int .i64 z, .int .i64 c.i, .string c.s, .int .i64 c.at_, .int .i64 c.line, .int .i64 c.col, .slice a7 l.length c7, .slice a8 arms.length c8] 38)).alloc (.cells #[.func (.func 34) #[] #[.pointer (some ⟨w.heap.size, 0, none⟩)]] 100) = W := ⟨_, rfl⟩
    have F := pre w kb #[.int .u8 10, .int .i64 z, .int .i64 c.i, .string c.s, .int .i64 c.at_, .int .i64 c.line, .int .i64 c.col, .slice a7 l.length c7, .slice a8 arms.length c8]
    rw [hW0] at F ⊢
    clear hW0
    have y4 := (F.bel.cell (p := ⟨kb, 4, none⟩) hkl).trans k4
    have y6 := (F.bel.cell (p := ⟨kb, 6, none⟩) hkl).trans k6
    have x0 : W0.cell? ⟨w.heap.size, 0, none⟩ = some (.pointer (some ⟨kb, 0, none⟩)) := (F.b0.cell 0).trans rfl
    have x1 : W0.cell? ⟨w.heap.size + 1, 1, none⟩ = some (.int .i64 z) := (F.b1.cell 1).trans rfl
    have x7 : W0.cell? ⟨w.heap.size + 1, 7, none⟩ = some (.slice a7 l.length c7) := (F.b1.cell 7).trans rfl
    have x8 : W0.cell? ⟨w.heap.size + 1, 8, none⟩ = some (.slice a8 arms.length c8) := (F.b1.cell 8).trans rfl
    have x2 : W0.cell? ⟨w.heap.size + 1 + 1, 0, none⟩ = some (.func (.func 34) #[] #[.pointer (some ⟨w.heap.size, 0, none⟩)]) := (F.b2.cell 0).trans rfl
    have HSZ := Lib.hid F.size
    have FB := F.bel
    clear F
    have hc1 := all_ok IH.out hB hBb hBh W0 l _ st w.heap.size (Kept.of_below FB) x0 (by have := HSZ.out; omega) (Xs.not (by omega) (by omega)) G7.out (by omega) (by omega) (HH.out.below FB) HO.out
    rw [HO1.out] at hc1
    refine hc1.mono ?_
    rintro e w2 ⟨rfl, hk2, st2, hh2, ho2, hs2⟩
    have hkw : Kept (Xs bb hb) w w2 := (Kept.of_below FB).trans hk2
    have s0 := HSZ.out
    have s2 := hk2.size
    have x0' := (cell_of_heap (o := 0) (hk2.block w.heap.size (by omega) (Xs.not (by omega) (by omega)))).trans x0
    have x8' := (cell_of_heap (o := 8) (hk2.block (w.heap.size + 1) (by omega) (Xs.not (by omega) (by omega)))).trans x8
    have S0 := Lib.hid s0
    have H2 := Lib.hid hh2
    have O2 := Lib.hid ho2
    have K2 := Lib.hid hk2
    cases o1 with
    | none =>
      have HM2 := Lib.hid (show o = none from HM.out)
      clear s0 hh2 ho2 hk2 hs2 hc1
      go_wp2
      go_ret
      obtain rfl := HM2.out
      exact ⟨rfl, hkw, st2, H2.out, O2.out, fun x hx => by cases hx⟩
    | some s1 =>
      obtain rfl := hs2 s1 rfl
      have HM2 := Lib.hid (show o = CArm.mays s tops arms st2 from HM.out)
      clear s0 hh2 ho2 hk2 hs2 hc1
      go_wp2_with fail
      refine (arms_ok hl hf IH.out hB hBb hBh hbt hkb hkh hn hk hr w2 arms _ st2 w.heap.size hkw x0' (by have := S0.out; omega) (Xs.not (by omega) (by omega)) G8.out (by omega) (by omega) H2.out O2.out HM2.out).mono ?_
      rintro e w3 ⟨rfl, -, h3⟩
      have HR := Lib.hid h3
      obtain ⟨q, hq⟩ : ∃ q, o.isSome = q := ⟨_, rfl⟩
      have HQ := Lib.hid hq
      rw [hq]
      clear h3 hq
      cases q
      all_goals
       go_wp2
       go_ret
       exact ⟨ret_b HQ.out.symm, HR.out⟩
   ·have e1 : decide ((0 : Int) < (arms.length : Int)) = false := decide_eq_false (by omega)
    have hm : o = none := by rw [HME.out, if_neg (by simp [shapeC, hp])]
    have HM := Lib.hid hm
    clear hm hse IH HCK HCN HCL HCA HOO HME hstLen h1
    go_enter Tryz.func14, Tryz.ntmps14
    go_wp2
    go_ret
    obtain rfl := HM.out
    exact ⟨rfl, by (repeat (with_reducible first | exact Kept.refl _ _ | refine Kept.setNew ?_ ?_ _ | refine Kept.alloc ?_ _ | refine Kept.drewN ?_ _ | refine Kept.drew ?_)) <;> first | omega | (simp; omega) | (simp; done), st, HH.out.below (by (repeat (with_reducible first | exact Below.refl _ _ | refine Below.setCell ?_ ?_ _ | refine Below.alloc ?_ ?_ _ | refine Below.drewN ?_ _ | refine Below.drew ?_)) <;> first | omega | (simp; omega) | (simp; done)), HO.out, fun x hx => by first | (cases hx; done) | (injection hx)⟩
  ·have e0 : ((l.length : Int) == 1) = false := by rw [show ((1 : Int)) = ((1 : Nat) : Int) from rfl, nat_beq]; simp [h1]
   have hm : o = none := by rw [HME.out, if_neg (by simp [shapeC, h1])]
   have HM := Lib.hid hm
   clear hm hse IH HCK HCN HCL HCA HOO HME hstLen h1
   go_enter Tryz.func14, Tryz.ntmps14
   go_wp2
   go_ret
   obtain rfl := HM.out
   exact ⟨rfl, by (repeat (with_reducible first | exact Kept.refl _ _ | refine Kept.setNew ?_ ?_ _ | refine Kept.alloc ?_ _ | refine Kept.drewN ?_ _ | refine Kept.drew ?_)) <;> first | omega | (simp; omega) | (simp; done), st, HH.out.below (by (repeat (with_reducible first | exact Below.refl _ _ | refine Below.setCell ?_ ?_ _ | refine Below.alloc ?_ ?_ _ | refine Below.drewN ?_ _ | refine Below.drew ?_)) <;> first | omega | (simp; omega) | (simp; done)), HO.out, fun x hx => by first | (cases hx; done) | (injection hx)⟩
 by_cases k7 : k = 7
 ·subst k7
  by_cases h1 : l.length = 2
  ·obtain ⟨x, y, rfl⟩ : ∃ x y, l = [x, y] := by
    match l, h1 with
    | [x, y], _ => exact ⟨x, y, rfl⟩
   have HME := Lib.hid ((HOO.out.symm.trans (Core.may_let s tops c st HCK.out HCL.out)).trans (by rw [HCN.out]))
   obtain ⟨o1, ho1⟩ : ∃ o1, Core.alls s tops [x] st = o1 := ⟨_, rfl⟩
   have hm := HME.out
   rw [ho1] at hm
   have HM := Lib.hid hm
   have HO1 := Lib.hid ho1
   have g7 := G7.out
   obtain ⟨b, off, cap', us', hv, hb', hc, -, -⟩ := g7.elem Core.d_len rfl 0 (by simp) (by omega)
   injection hv with ha hn' hcap
   subst ha hcap
   obtain ⟨r1, r2, hc2⟩ := rd_two g7
   have R1 := Lib.hid r1
   have R2 := Lib.hid r2
   have hsx : Core.sizes [x] ≤ N ∧ Core.sizes [x] ≤ 1048576 ∧ Core.sizes [y] ≤ N ∧ Core.sizes [y] ≤ 1048576 := by
    simp only [Core.sizes] at hse ⊢; omega
   have hcap1 : ¬ c7 = 1 := by omega
   simp only [List.length_cons, List.length_nil, Nat.zero_add, Nat.reduceAdd] at hlen hc ⊢
   clear g7 r1 r2 hm ho1 HCK HCN HCL HCA HOO HME hstLen h1 G7
   go_enter Tryz.func14, Tryz.ntmps14
   go_wp2_with fail
   obtain ⟨W0, hW0⟩ : ∃ W, ((w.alloc (.cells #[.pointer (some ⟨kb, 0, none⟩)] 56)).alloc (.cells #[.int .u8 7, .int .i64 z, .int .i64 c.i, .string c.s, .int .i64 c.at_, .int .i64 c.line, .int .i64 c.col, .slice (some ⟨b, off, none⟩) 2 c7, .slice a8 arms.length c8] 38)).alloc (.cells #[.func (.func 34) #[] #[.pointer (some ⟨w.heap.size, 0, none⟩)]] 100) = W := ⟨_, rfl⟩
   have F := pre w kb #[.int .u8 7, .int .i64 z, .int .i64 c.i, .string c.s, .int .i64 c.at_, .int .i64 c.line, .int .i64 c.col, .slice (some ⟨b, off, none⟩) 2 c7, .slice a8 arms.length c8]
   rw [hW0] at F ⊢
   clear hW0
   have x0 : W0.cell? ⟨w.heap.size, 0, none⟩ = some (.pointer (some ⟨kb, 0, none⟩)) := (F.b0.cell 0).trans rfl
   have x1 : W0.cell? ⟨w.heap.size + 1, 1, none⟩ = some (.int .i64 z) := (F.b1.cell 1).trans rfl
   have x7 : W0.cell? ⟨w.heap.size + 1, 7, none⟩ = some (.slice (some ⟨b, off, none⟩) 2 c7) := (F.b1.cell 7).trans rfl
   have x2 : W0.cell? ⟨w.heap.size + 1 + 1, 0, none⟩ = some (.func (.func 34) #[] #[.pointer (some ⟨w.heap.size, 0, none⟩)]) := (F.b2.cell 0).trans rfl
   have HSZ := Lib.hid F.size
   have FB := F.bel
   clear F
   have hc1 : ∀ W, W.heap = W0.heap → Kept (Xs bb hb) W0 W → Calls Tryz.prog 34 #[.slice (some ⟨b, off, none⟩) 1 c7, .pointer (some ⟨w.heap.size, 0, none⟩)] W (Ans o1 bb hb n W) := fun W he hW => by
    rw [← HO1.out]
    have hsz0 := HSZ.out
    exact all_ok IH.out hB hBb hBh W [x] _ st w.heap.size ((Kept.of_below FB).trans hW) ((cell_of_heap (by rw [he])).trans x0) (by rw [he]; omega) (Xs.not (by omega) (by omega)) R1.out hsx.1 hsx.2.1 ⟨(HH.out.below FB).been.of (by rw [he]), (HH.out.below FB).here.of (by rw [he])⟩ HO.out
   have HC1 := Lib.hid hc1
   have hq1 : (1 : Int) ≤ (c7 : Int) := by omega
   have hq2 : ¬ (c7 : Int) < 1 := by omega
   have hq3 : 1 ≤ c7 := by omega
   have hX0 : ¬ Xs bb hb w.heap.size := Xs.not (by omega) (by omega)
   have hX1 : ¬ Xs bb hb (w.heap.size + 1) := Xs.not (by omega) (by omega)
   have hX2 : ¬ Xs bb hb (w.heap.size + 1 + 1) := Xs.not (by omega) (by omega)
   have hs0 : w.heap.size < W0.heap.size ∧ w.heap.size + 1 < W0.heap.size ∧ w.heap.size + 1 + 1 < W0.heap.size := by have := HSZ.out; omega
   clear hc1
   cases o1 with
   | none =>
     have HM2 := Lib.hid (show o = none from HM.out)
     refine wp_region_segs [7] (by kernel_rfl) (by kernel_rfl) ?_
     rw [wpSegs]
     simp only [List.take_succ_cons, List.take_zero, List.drop_succ_cons, List.drop_zero]
     repeat (go_big_quiet_step (fail))
     refine wpQuiet_nil ?_
     rintro _ ⟨nq, rfl⟩
     go_wp2_with (go_at_call 34; refine (HC1.out (W0.drewN _) rfl ((Kept.refl _ _).drewN _)).mono ?_; rintro e w2 ⟨rfl, hk2, st2, hh2, ho2, hs2⟩)
     have hkw : Kept (Xs bb hb) w w2 := ((Kept.of_below FB).drewN _).trans hk2
     have H2 := Lib.hid hh2
     have O2 := Lib.hid ho2
     clear hh2 ho2 hk2 hs2
     show wpSegs _ _ _ _ _ _ _
     rw [wpSegs]
     repeat (go_big_quiet_step (fail))
     refine wpQuiet_nil ?_
     rintro _ ⟨nq2, rfl⟩
     go_wp2
     go_ret
     obtain rfl := HM2.out
     exact ⟨rfl, hkw.drewN _, st2, H2.out.drewN _, O2.out, fun x hx => by cases hx⟩
   | some s1 =>
     have HM2 := Lib.hid (show o = Option.map (fun s2 => s2.drops [z]) ((s1.binds [z]).bind fun s2 => Core.alls s tops [y] s2) from HM.out)
     have hc2' : ∀ w2, (w2.cell? ⟨w.heap.size, 0, none⟩ = some (.pointer (some ⟨kb, 0, none⟩)) ∧ w2.cell? ⟨w.heap.size + 1, 1, none⟩ = some (.int .i64 z) ∧ w2.cell? ⟨w.heap.size + 1, 7, none⟩ = some (.slice (some ⟨b, off, none⟩) 2 c7) ∧ w2.cell? ⟨w.heap.size + 1 + 1, 0, none⟩ = some (.func (.func 34) #[] #[.pointer (some ⟨w.heap.size, 0, none⟩)])) ∧ Kept (Xs bb hb) W0 w2 → Holds w2 bb hb 4 s1 → s1.Of n →
       Calls Tryz.prog 37 #[.pointer (some ⟨kb, 0, none⟩), .slice (some ⟨w2.heap.size, 0, none⟩) 1 1, .func (.func 39) #[] #[.pointer (some ⟨w.heap.size + 1 + 1, 0, none⟩), .pointer (some ⟨w.heap.size + 1, 0, none⟩)]] (w2.alloc (.cells #[.int .i64 z] 3)) (Ans o bb hb n (w2.alloc (.cells #[.int .i64 z] 3))) := by
      intro w2 hS2 hh2 ho2
      have hz2 := hS2.2.size
      have hz0 := HSZ.out
      have hz3 : w.heap.size + 3 ≤ w2.heap.size := by omega
      have hz4 : w2.heap.size ≤ (w2.alloc (.cells #[.int .i64 z] 3)).heap.size := ((Below.refl w2.heap.size w2).alloc (Nat.le_refl _) _).size
      have hkk : Kept (Xs bb hb) w (w2.alloc (.cells #[.int .i64 z] 3)) := ((Kept.of_below FB).trans hS2.2).alloc _
      exact with3_ok IH.out hB hBb hBh hbt hkb hkh hn hk hbl hhl hkk (Nat.le_trans hz3 hz4) y b off c7 w2.heap.size z s1 (Blk.new w2 w2.heap.size #[.int .i64 z] 3 rfl) (Xs.not (by omega) (by omega)) (cell_al1 hS2.1.1 (by show w.heap.size < _; omega) _) (cell_al1 hS2.1.2.2.1 (by show w.heap.size + 1 < _; omega) _) (cell_al1 hS2.1.2.2.2 (by show w.heap.size + 1 + 1 < _; omega) _) R2.out hc2 hsx.2.2.1 hsx.2.2.2 ⟨hh2.been.alloc _, hh2.here.alloc _⟩ ho2 HM2.out
     have HC2 := Lib.hid hc2'
     clear hc2'
     go_region_held3 (fun w' => (w'.cell? ⟨w.heap.size, 0, none⟩ = some (.pointer (some ⟨kb, 0, none⟩)) ∧ w'.cell? ⟨w.heap.size + 1, 1, none⟩ = some (.int .i64 z) ∧ w'.cell? ⟨w.heap.size + 1, 7, none⟩ = some (.slice (some ⟨b, off, none⟩) 2 c7) ∧ w'.cell? ⟨w.heap.size + 1 + 1, 0, none⟩ = some (.func (.func 34) #[] #[.pointer (some ⟨w.heap.size, 0, none⟩)])) ∧ Kept (Xs bb hb) W0 w') (first | assumption | exact ⟨⟨x0, x1, x7, x2⟩, Kept.refl _ _⟩ | exact ⟨⟨x0, x1, x7, x2⟩, (Kept.refl _ _).drew⟩ | exact four_kept hX0 hX1 hX2 hs0 ⟨x0, x1, x7, x2⟩ (And.right ‹_ ∧ Kept (Xs bb hb) W0 _›).drew | exact four_kept hX0 hX1 hX2 hs0 ⟨x0, x1, x7, x2⟩ ((And.right ‹_ ∧ Kept (Xs bb hb) W0 _›).alloc _)) (first | (go_at_call 34; refine (HC1.out W0.drew rfl (Kept.refl _ _).drew).mono ?_; rintro e w2 ⟨rfl, hk2, st2, hh2, ho2, hs2⟩; obtain rfl := hs2 s1 rfl; have hS2 := four_kept hX0 hX1 hX2 hs0 ⟨x0, x1, x7, x2⟩ (((Kept.refl (Xs bb hb) W0).drew).trans hk2); rw [show ((some st2 : Option Bnd).isSome) = true from rfl]) | (go_at_call 37; refine (HC2.out _ ‹_› ‹_› ‹_›).mono ?_; rintro e w3 ⟨rfl, h3⟩; have hS3 := four_kept hX0 hX1 hX2 hs0 ⟨x0, x1, x7, x2⟩ (((And.right ‹_ ∧ Kept (Xs bb hb) W0 _›).alloc _).trans h3.1); have hS4 : Ans o bb hb n w (.returned (.bool o.isSome)) w3 := ⟨rfl, (Kept.of_below FB).trans hS3.2, h3.2⟩))
     all_goals
      go_wp2
      go_ret
      exact ‹Ans o bb hb n w _ _›
  ·have e0 : ((l.length : Int) == 2) = false := by rw [show ((2 : Int)) = ((2 : Nat) : Int) from rfl, nat_beq]; simp [h1]
   have HME := Lib.hid ((HOO.out.symm.trans (Core.may_eq s tops c st)).trans (by rw [HCK.out, HCN.out, HCL.out, HCA.out]))
   have hm : o = none := by rw [HME.out, if_neg (by simp [shapeC, h1])]
   have HM := Lib.hid hm
   clear hm hse IH HCK HCN HCL HCA HOO HME hstLen
   clear h1
   go_enter Tryz.func14, Tryz.ntmps14
   go_wp2_with fail
   obtain ⟨W0, hW0⟩ : ∃ W, ((w.alloc (.cells #[.pointer (some ⟨kb, 0, none⟩)] 56)).alloc (.cells #[.int .u8 7, .int .i64 z, .int .i64 c.i, .string c.s, .int .i64 c.at_, .int .i64 c.line, .int .i64 c.col, .slice a7 l.length c7, .slice a8 arms.length c8] 38)).alloc (.cells #[.func (.func 34) #[] #[.pointer (some ⟨w.heap.size, 0, none⟩)]] 100) = W := ⟨_, rfl⟩
   have F := pre w kb #[.int .u8 7, .int .i64 z, .int .i64 c.i, .string c.s, .int .i64 c.at_, .int .i64 c.line, .int .i64 c.col, .slice a7 l.length c7, .slice a8 arms.length c8]
   rw [hW0] at F ⊢
   clear hW0
   have y4 := (F.bel.cell (p := ⟨kb, 4, none⟩) hkl).trans k4
   have y6 := (F.bel.cell (p := ⟨kb, 6, none⟩) hkl).trans k6
   have x0 : W0.cell? ⟨w.heap.size, 0, none⟩ = some (.pointer (some ⟨kb, 0, none⟩)) := (F.b0.cell 0).trans rfl
   have x1 : W0.cell? ⟨w.heap.size + 1, 1, none⟩ = some (.int .i64 z) := (F.b1.cell 1).trans rfl
   have x7 : W0.cell? ⟨w.heap.size + 1, 7, none⟩ = some (.slice a7 l.length c7) := (F.b1.cell 7).trans rfl
   have x8 : W0.cell? ⟨w.heap.size + 1, 8, none⟩ = some (.slice a8 arms.length c8) := (F.b1.cell 8).trans rfl
   have x2 : W0.cell? ⟨w.heap.size + 1 + 1, 0, none⟩ = some (.func (.func 34) #[] #[.pointer (some ⟨w.heap.size, 0, none⟩)]) := (F.b2.cell 0).trans rfl
   have HSZ := Lib.hid F.size
   have FB := F.bel
   clear F
   go_quiet (fail)
   go_wp2
   go_ret
   obtain rfl := HM.out
   exact ⟨rfl, by (repeat (with_reducible first | exact Kept.of_below FB | refine Kept.setNew ?_ ?_ _ | refine Kept.alloc ?_ _ | refine Kept.drewN ?_ _ | refine Kept.drew ?_)) <;> first | omega | (simp; omega) | (simp; done), st, Holds.drewN (HH.out.below FB) _, HO.out, fun x hx => by first | (cases hx; done) | (injection hx)⟩
 have hm : o = none := by
  have h := HOO.out.symm.trans (Core.may_eq s tops c st)
  rw [HCK.out, if_neg (by simp [shapeC, k1, k2, k3, k4', k5, k6', k7, k8, k9, k10, k11])] at h
  exact h
 have t1 : (k == 1) = false := by simpa using k1
 have t2 : (k == 2) = false := by simpa using k2
 have t3 : (k == 3) = false := by simpa using k3
 have t4 : (k == 4) = false := by simpa using k4'
 have t5 : (k == 5) = false := by simpa using k5
 have t6 : (k == 6) = false := by simpa using k6'
 have t7 : (k == 7) = false := by simpa using k7
 have t8 : (k == 8) = false := by simpa using k8
 have t9 : (k == 9) = false := by simpa using k9
 have t10 : (k == 10) = false := by simpa using k10
 have t11 : (k == 11) = false := by simpa using k11
 have HM := Lib.hid hm
 clear hm hse IH HCK HCN HCL HCA HOO hstLen k1 k2 k3 k4' k5 k6' k7 k8 k9 k10 k11
 go_enter Tryz.func14, Tryz.ntmps14
 go_wp2
 go_ret
 obtain rfl := HM.out
 exact ⟨rfl, by (repeat (with_reducible first | exact Kept.refl _ _ | refine Kept.setNew ?_ ?_ _ | refine Kept.alloc ?_ _ | refine Kept.drewN ?_ _ | refine Kept.drew ?_)) <;> first | omega | (simp; omega) | (simp; done), st, HH.out.below (by (repeat (with_reducible first | exact Below.refl _ _ | refine Below.setCell ?_ ?_ _ | refine Below.alloc ?_ ?_ _ | refine Below.drewN ?_ _ | refine Below.drew ?_)) <;> first | omega | (simp; omega) | (simp; done)), HO.out, fun x hx => by first | (cases hx; done) | (injection hx)⟩
end Go.Proofs.YtdhodaefgliphaaGreatDoor
