/- Show: what 'the same' and 'how deep' are, as plain functions on the syntax; contracts: samePat, sameTy, SameExpr. -/
import Derived.Test.YtnneooidkbhbeaaGreatDoorEqf
import Derived.Deep.QuietTactic
import Derived.Deep.RegionHeld3
import Derived.IntWalk
set_option linter.unusedVariables false
set_option linter.unusedSimpArgs false
namespace Go.Proofs.YtnneooidkbhbeaaGreatDoor
open Go.RowKit

structure TwoB (w wr : World) (bx yb : Array Value) (t : TypeId) : Prop where
  bel : Below w.heap.size w wr
  x : Blk wr w.heap.size bx t
  y : Blk wr (w.heap.size + 1) yb t
theorem TwoB.below {w W W' : World} {bx yb : Array Value} {t : TypeId} (h : TwoB w W bx yb t) (hb : Below W.heap.size W W') : TwoB w W' bx yb t := ⟨h.bel.trans (hb.mono h.bel.size), h.x.below hb h.x.lt, h.y.below hb h.y.lt⟩
theorem TwoB.mk' (w : World) (bx yb : Array Value) (t : TypeId) : TwoB w ((w.alloc (.cells bx t)).alloc (.cells yb t)) bx yb t :=
  ⟨by (repeat (with_reducible first | exact Below.refl _ _ | refine Below.setCell ?_ ?_ _ | refine Below.alloc ?_ ?_ _ | refine Below.drewN ?_ _ | refine Below.drew ?_)) <;> first | omega | (simp; omega) | (simp; done), (Blk.new w _ _ _ rfl).alloc _, Blk.new _ _ _ _ (by simp)⟩
namespace SPat
mutual
def same : SPat → SPat → Bool
  | .mk k s n _ _ _ l, .mk k' s' n' _ _ _ l' => k == k' && (decide (s = s') && (n == n' && sames l l'))
def sames : List SPat → List SPat → Bool
  | [], [] => true
  | x :: r, y :: t => x.same y && sames r t
  | _, _ => false
end
theorem sames_eq : ∀ l m : List SPat, sames l m = eqL same l m
  | [], [] => by simp [sames, eqL]
  | [], _ :: _ => by simp [sames, eqL]
  | _ :: _, [] => by simp [sames, eqL]
  | x :: r, y :: t => by simp [sames, eqL, sames_eq r t]
theorem same_eq (x y : SPat) : x.same y = (x.kind == y.kind && (decide (x.s = y.s) && (x.n == y.n && eqL same x.l y.l))) := by
  cases x; cases y; simp only [same, kind, s, n, l, sames_eq]; rfl
mutual
def depth : SPat → Nat
  | .mk _ _ _ _ _ _ l => 1 + depths l
def depths : List SPat → Nat
  | [] => 0
  | x :: r => max x.depth (depths r)
end
theorem depths_eq : ∀ l : List SPat, depths l = maxL depth l
  | [] => by simp [depths, maxL]
  | x :: r => by simp [depths, maxL, depths_eq r]
theorem depth_eq (x : SPat) : x.depth = 1 + maxL depth x.l := by cases x; simp [depth, l, depths_eq]
mutual
theorem depth_size : ∀ x : SPat, x.depth ≤ x.size
  | .mk _ _ _ _ _ _ l => by have := depths_size l; simp only [depth, size]; omega
theorem depths_size : ∀ l : List SPat, depths l ≤ sizes l
  | [] => by simp [depths]
  | x :: r => by have := depth_size x; have := depths_size r; simp only [depths, sizes]; omega
end
end SPat
namespace STy
mutual
def same : STy → STy → Bool
  | .mk k s m _ _ _ l, .mk k' s' m' _ _ _ l' => k == k' && (decide (s = s') && (m == m' && sames l l'))
def sames : List STy → List STy → Bool
  | [], [] => true
  | x :: r, y :: t => x.same y && sames r t
  | _, _ => false
end
theorem sames_eq : ∀ l m : List STy, sames l m = eqL same l m
  | [], [] => by simp [sames, eqL]
  | [], _ :: _ => by simp [sames, eqL]
  | _ :: _, [] => by simp [sames, eqL]
  | x :: r, y :: t => by simp [sames, eqL, sames_eq r t]
theorem same_eq (x y : STy) : x.same y = (x.kind == y.kind && (decide (x.s = y.s) && (x.m == y.m && eqL same x.l y.l))) := by
  cases x; cases y; simp only [same, kind, s, m, l, sames_eq]; rfl
mutual
def depth : STy → Nat
  | .mk _ _ _ _ _ _ l => 1 + depths l
def depths : List STy → Nat
  | [] => 0
  | x :: r => max x.depth (depths r)
end
theorem depths_eq : ∀ l : List STy, depths l = maxL depth l
  | [] => by simp [depths, maxL]
  | x :: r => by simp [depths, maxL, depths_eq r]
theorem depth_eq (x : STy) : x.depth = 1 + maxL depth x.l := by cases x; simp [depth, l, depths_eq]
mutual
theorem depth_size : ∀ x : STy, x.depth ≤ x.size
  | .mk _ _ _ _ _ _ l => by have := depths_size l; simp only [depth, size]; omega
theorem depths_size : ∀ l : List STy, depths l ≤ sizes l
  | [] => by simp [depths]
  | x :: r => by have := depth_size x; have := depths_size r; simp only [depths, sizes]; omega
end
end STy
mutual
def SExpr.same : SExpr → SExpr → Bool
  | .mk k s n _ _ _ l a, .mk k' s' n' _ _ _ l' a' => k == k' && (decide (s = s') && (n == n' && (SExpr.sames l l' && SArm.sames a a')))
def SExpr.sames : List SExpr → List SExpr → Bool
  | [], [] => true
  | x :: r, y :: t => x.same y && SExpr.sames r t
  | _, _ => false
def SArm.same : SArm → SArm → Bool
  | .mk p e, .mk p' e' => p.same p' && e.same e'
def SArm.sames : List SArm → List SArm → Bool
  | [], [] => true
  | x :: r, y :: t => x.same y && SArm.sames r t
  | _, _ => false
end
theorem SExpr.sames_eq : ∀ l m : List SExpr, SExpr.sames l m = eqL SExpr.same l m
  | [], [] => by simp [SExpr.sames, eqL]
  | [], _ :: _ => by simp [SExpr.sames, eqL]
  | _ :: _, [] => by simp [SExpr.sames, eqL]
  | x :: r, y :: t => by simp [SExpr.sames, eqL, SExpr.sames_eq r t]
theorem SArm.sames_eq : ∀ l m : List SArm, SArm.sames l m = eqL SArm.same l m
  | [], [] => by simp [SArm.sames, eqL]
  | [], _ :: _ => by simp [SArm.sames, eqL]
  | _ :: _, [] => by simp [SArm.sames, eqL]
  | x :: r, y :: t => by simp [SArm.sames, eqL, SArm.sames_eq r t]
theorem SExpr.same_eq (x y : SExpr) : x.same y = (x.kind == y.kind && (decide (x.s = y.s) && (x.n == y.n && (eqL SExpr.same x.l y.l && eqL SArm.same x.arms y.arms)))) := by
  cases x; cases y; simp only [SExpr.same, SExpr.kind, SExpr.s, SExpr.n, SExpr.l, SExpr.arms, SExpr.sames_eq, SArm.sames_eq]; rfl
theorem SArm.same_eq (x y : SArm) : x.same y = (x.p.same y.p && x.e.same y.e) := by
  cases x; cases y; simp [SArm.same, SArm.p, SArm.e]
mutual
def SExpr.depth : SExpr → Nat
  | .mk _ _ _ _ _ _ l a => 1 + max (SExpr.depths l) (SArm.depths a)
def SExpr.depths : List SExpr → Nat
  | [] => 0
  | x :: r => max x.depth (SExpr.depths r)
def SArm.depth : SArm → Nat
  | .mk p e => max p.depth e.depth
def SArm.depths : List SArm → Nat
  | [] => 0
  | x :: r => max x.depth (SArm.depths r)
end
theorem SExpr.depths_eq : ∀ l : List SExpr, SExpr.depths l = maxL SExpr.depth l
  | [] => by simp [SExpr.depths, maxL]
  | x :: r => by simp [SExpr.depths, maxL, SExpr.depths_eq r]
theorem SArm.depths_eq : ∀ l : List SArm, SArm.depths l = maxL SArm.depth l
  | [] => by simp [SArm.depths, maxL]
  | x :: r => by simp [SArm.depths, maxL, SArm.depths_eq r]
theorem SExpr.depth_eq (x : SExpr) : x.depth = 1 + max (maxL SExpr.depth x.l) (maxL SArm.depth x.arms) := by
  cases x; simp [SExpr.depth, SExpr.l, SExpr.arms, SExpr.depths_eq, SArm.depths_eq]
theorem SArm.depth_eq (x : SArm) : x.depth = max x.p.depth x.e.depth := by cases x; simp [SArm.depth, SArm.p, SArm.e]
mutual
theorem SExpr.depth_size : ∀ x : SExpr, x.depth ≤ x.size
  | .mk _ _ _ _ _ _ l a => by have := SExpr.depths_size l; have := SArm.depths_size a; simp only [SExpr.depth, SExpr.size]; omega
theorem SExpr.depths_size : ∀ l : List SExpr, SExpr.depths l ≤ SExpr.sizes l
  | [] => by simp [SExpr.depths]
  | x :: r => by have := SExpr.depth_size x; have := SExpr.depths_size r; simp only [SExpr.depths, SExpr.sizes]; omega
theorem SArm.depth_size : ∀ x : SArm, x.depth ≤ x.size
  | .mk p e => by have := p.depth_size; have := SExpr.depth_size e; simp only [SArm.depth, SArm.size]; omega
theorem SArm.depths_size : ∀ l : List SArm, SArm.depths l ≤ SArm.sizes l
  | [] => by simp [SArm.depths]
  | x :: r => by have := SArm.depth_size x; have := SArm.depths_size r; simp only [SArm.depths, SArm.sizes]; omega
end
theorem str_yes {a b : ByteArray} (h : a = b) : (a.toList == b.toList) = true := by subst h; simp
theorem str_no {a b : ByteArray} (h : a ≠ b) : (a.toList == b.toList) = false := by
  rw [ByteArray.toList_eq, ByteArray.toList_eq]
  simp only [beq_eq_false_iff_ne, ne_eq]
  intro e
  exact h (by cases a; cases b; simp_all)
theorem no1 {a b c d : Bool} (h : a = false) : (a && (b && (c && d))) = false := by rw [h]; rfl
theorem no2 {a b c d : Bool} (h : b = false) : (a && (b && (c && d))) = false := by rw [h]; cases a <;> rfl
theorem no3 {a b c d : Bool} (h : c = false) : (a && (b && (c && d))) = false := by rw [h]; cases a <;> cases b <;> rfl
theorem yes3 {a b c d : Bool} (h1 : a = true) (h2 : b = true) (h3 : c = true) : (a && (b && (c && d))) = d := by rw [h1, h2, h3]; rfl

theorem enters_samePat : Enters Tryz.prog 48 := enters Tryz.func48 (by kernel_rfl) rfl
theorem enters_sameTy : Enters Tryz.prog 57 := enters Tryz.func57 (by kernel_rfl) rfl
theorem enters_SameExpr : Enters Tryz.prog 16 := enters Tryz.func16 (by kernel_rfl) rfl
theorem enters_SameExpr1 : Enters Tryz.prog 47 := enters Tryz.func47 (by kernel_rfl) rfl

set_option maxHeartbeats 2000000 in
theorem samePat_any : ∀ (N : Nat) (x y : SPat) (us vs : List Value) (w : World), x.size ≤ N → x.size ≤ 1048576 → Rds w w.heap.size us x.d → Rds w w.heap.size vs y.d →
    Calls Tryz.prog 48 #[.agg us.toArray, .agg vs.toArray] w fun e w' => e = .returned (.bool (x.same y)) ∧ Below w.heap.size w w' := by
  intro N
  induction N with
  | zero => intro x y us vs w h; have := x.size_pos; omega
  | succ N ih =>
    intro x y us vs w hN hs hus hvs
    have IH := Lib.hid ih
    clear ih
    obtain ⟨v6, rfl, h6, -⟩ := SPat.cells hus
    obtain ⟨u6, rfl, g6, -⟩ := SPat.cells hvs
    have HE := Lib.hid (SPat.same_eq x y)
    have hsz := x.size_eq
    have hlen := SPat.sizes_len x.l
    have HA := Lib.hid (fun (W : World) (hW : Below w.heap.size w W) => alike_SPat x.l y.l v6 u6 48 #[] SPat.same W (by omega) enters_samePat ((h6.keep hW).mono hW.size) ((g6.keep hW).mono hW.size)
      (fun i h h2 W' us vs hW' hu hv => by
        have := IH.out x.l[i] y.l[i] us vs W' (by have := SPat.sizes_get x.l i h; omega) (by have := SPat.sizes_get x.l i h; omega) ((hu.keep hW').mono hW'.size) ((hv.keep hW').mono hW'.size)
        simpa using this))
    obtain ⟨a, c, rfl⟩ := h6.slice_inv
    obtain ⟨a', c', rfl⟩ := g6.slice_inv
    obtain ⟨B, hB⟩ : ∃ B, eqL SPat.same x.l y.l = B := ⟨_, rfl⟩
    rw [hB] at HA HE
    obtain ⟨S, hS⟩ : ∃ B, x.same y = B := ⟨_, rfl⟩
    rw [hS] at HE
    rw [hS]
    obtain ⟨xk, hxk⟩ : ∃ z, x.kind = z := ⟨_, rfl⟩
    obtain ⟨yk, hyk⟩ : ∃ z, y.kind = z := ⟨_, rfl⟩
    obtain ⟨xs, hxs⟩ : ∃ z, x.s = z := ⟨_, rfl⟩
    obtain ⟨ys, hys⟩ : ∃ z, y.s = z := ⟨_, rfl⟩
    obtain ⟨xn, hxn⟩ : ∃ z, x.n = z := ⟨_, rfl⟩
    obtain ⟨yn, hyn⟩ : ∃ z, y.n = z := ⟨_, rfl⟩
    rw [hxk, hyk, hxs, hys, hxn, hyn] at HE
    rw [hxk, hyk, hxs, hys, hxn, hyn]
    clear hB hS hxk hyk hxs hys hxn hyn hus hvs h6 g6 hsz hlen hN hs IH
    by_cases k1 : xk = yk
    · have t1 : (xk == yk) = true := by simp [k1]
      by_cases k2 : xs = ys
      · have t2 : decide (xs = ys) = true := by simp [k2]
        have t2' : (xs.toList == ys.toList) = true := str_yes k2
        by_cases k3 : xn = yn
        · have t3 : (xn == yn) = true := by simp [k3]
          have HM := Lib.hid (HE.out.trans (yes3 t1 t2 t3))
          clear k1 k2 k3 HE
          go_enter Tryz.func48, Tryz.ntmps48
          go_wp2_with fail
          refine (HA.out _ (by (repeat (with_reducible first | exact Below.refl _ _ | refine Below.setCell ?_ ?_ _ | refine Below.alloc ?_ ?_ _ | refine Below.drewN ?_ _ | refine Below.drew ?_)) <;> first | omega | (simp; omega) | (simp; done))).mono ?_
          rintro e w2 ⟨rfl, hb2⟩
          have hfin : Below w.heap.size w w2 := Below.trans (by (repeat (with_reducible first | exact Below.refl _ _ | refine Below.setCell ?_ ?_ _ | refine Below.alloc ?_ ?_ _ | refine Below.drewN ?_ _ | refine Below.drew ?_)) <;> first | omega | (simp; omega) | (simp; done)) (hb2.mono (by first | omega | (simp; omega) | (simp; done)))
          clear hb2
          go_wp2
          go_ret
          exact ⟨ret_b HM.out.symm, hfin⟩
        · have t3 : (xn == yn) = false := by simpa using k3
          clear k1 k2 k3
          have HM := Lib.hid (HE.out.trans (no3 t3))
          go_enter Tryz.func48, Tryz.ntmps48
          go_wp2
          go_ret
          exact ⟨ret_b HM.out.symm, by (repeat (with_reducible first | exact Below.refl _ _ | refine Below.setCell ?_ ?_ _ | refine Below.alloc ?_ ?_ _ | refine Below.drewN ?_ _ | refine Below.drew ?_)) <;> first | omega | (simp; omega) | (simp; done)⟩
      · have t2 : decide (xs = ys) = false := by simpa using k2
        have t2' : (xs.toList == ys.toList) = false := str_no k2
        clear k1 k2
        have HM := Lib.hid (HE.out.trans (no2 t2))
        go_enter Tryz.func48, Tryz.ntmps48
        go_wp2
        go_ret
        exact ⟨ret_b HM.out.symm, by (repeat (with_reducible first | exact Below.refl _ _ | refine Below.setCell ?_ ?_ _ | refine Below.alloc ?_ ?_ _ | refine Below.drewN ?_ _ | refine Below.drew ?_)) <;> first | omega | (simp; omega) | (simp; done)⟩
    · have t1 : (xk == yk) = false := by simpa using k1
      clear k1
      have HM := Lib.hid (HE.out.trans (no1 t1))
      go_enter Tryz.func48, Tryz.ntmps48
      go_wp2
      go_ret
      exact ⟨ret_b HM.out.symm, by (repeat (with_reducible first | exact Below.refl _ _ | refine Below.setCell ?_ ?_ _ | refine Below.alloc ?_ ?_ _ | refine Below.drewN ?_ _ | refine Below.drew ?_)) <;> first | omega | (simp; omega) | (simp; done)⟩
set_option maxHeartbeats 2000000 in
theorem sameTy_any : ∀ (N : Nat) (x y : STy) (us vs : List Value) (w : World), x.size ≤ N → x.size ≤ 1048576 → Rds w w.heap.size us x.d → Rds w w.heap.size vs y.d →
    Calls Tryz.prog 57 #[.agg us.toArray, .agg vs.toArray] w fun e w' => e = .returned (.bool (x.same y)) ∧ Below w.heap.size w w' := by
  intro N
  induction N with
  | zero => intro x y us vs w h; have := x.size_pos; omega
  | succ N ih =>
    intro x y us vs w hN hs hus hvs
    have IH := Lib.hid ih
    clear ih
    obtain ⟨v6, rfl, h6, -⟩ := STy.cells hus
    obtain ⟨u6, rfl, g6, -⟩ := STy.cells hvs
    have HE := Lib.hid (STy.same_eq x y)
    have hsz := x.size_eq
    have hlen := STy.sizes_len x.l
    have HA := Lib.hid (fun (W : World) (hW : Below w.heap.size w W) => alike_STy x.l y.l v6 u6 57 #[] STy.same W (by omega) enters_sameTy ((h6.keep hW).mono hW.size) ((g6.keep hW).mono hW.size)
      (fun i h h2 W' us vs hW' hu hv => by
        have := IH.out x.l[i] y.l[i] us vs W' (by have := STy.sizes_get x.l i h; omega) (by have := STy.sizes_get x.l i h; omega) ((hu.keep hW').mono hW'.size) ((hv.keep hW').mono hW'.size)
        simpa using this))
    obtain ⟨a, c, rfl⟩ := h6.slice_inv
    obtain ⟨a', c', rfl⟩ := g6.slice_inv
    obtain ⟨B, hB⟩ : ∃ B, eqL STy.same x.l y.l = B := ⟨_, rfl⟩
    rw [hB] at HA HE
    obtain ⟨S, hS⟩ : ∃ B, x.same y = B := ⟨_, rfl⟩
    rw [hS] at HE
    rw [hS]
    obtain ⟨xk, hxk⟩ : ∃ z, x.kind = z := ⟨_, rfl⟩
    obtain ⟨yk, hyk⟩ : ∃ z, y.kind = z := ⟨_, rfl⟩
    obtain ⟨xs, hxs⟩ : ∃ z, x.s = z := ⟨_, rfl⟩
    obtain ⟨ys, hys⟩ : ∃ z, y.s = z := ⟨_, rfl⟩
    obtain ⟨xn, hxn⟩ : ∃ z, x.m = z := ⟨_, rfl⟩
    obtain ⟨yn, hyn⟩ : ∃ z, y.m = z := ⟨_, rfl⟩
    rw [hxk, hyk, hxs, hys, hxn, hyn] at HE
    rw [hxk, hyk, hxs, hys, hxn, hyn]
    clear hB hS hxk hyk hxs hys hxn hyn hus hvs h6 g6 hsz hlen hN hs IH
    by_cases k1 : xk = yk
    · have t1 : (xk == yk) = true := by simp [k1]
      by_cases k2 : xs = ys
      · have t2 : decide (xs = ys) = true := by simp [k2]
        have t2' : (xs.toList == ys.toList) = true := str_yes k2
        by_cases k3 : xn = yn
        · have t3 : (xn == yn) = true := by simp [k3]
          have HM := Lib.hid (HE.out.trans (yes3 t1 t2 t3))
          clear k1 k2 k3 HE
          go_enter Tryz.func57, Tryz.ntmps57
          go_wp2_with fail
          refine (HA.out _ (by (repeat (with_reducible first | exact Below.refl _ _ | refine Below.setCell ?_ ?_ _ | refine Below.alloc ?_ ?_ _ | refine Below.drewN ?_ _ | refine Below.drew ?_)) <;> first | omega | (simp; omega) | (simp; done))).mono ?_
          rintro e w2 ⟨rfl, hb2⟩
          have hfin : Below w.heap.size w w2 := Below.trans (by (repeat (with_reducible first | exact Below.refl _ _ | refine Below.setCell ?_ ?_ _ | refine Below.alloc ?_ ?_ _ | refine Below.drewN ?_ _ | refine Below.drew ?_)) <;> first | omega | (simp; omega) | (simp; done)) (hb2.mono (by first | omega | (simp; omega) | (simp; done)))
          clear hb2
          go_wp2
          go_ret
          exact ⟨ret_b HM.out.symm, hfin⟩
        · have t3 : (xn == yn) = false := by simpa using k3
          clear k1 k2 k3
          have HM := Lib.hid (HE.out.trans (no3 t3))
          go_enter Tryz.func57, Tryz.ntmps57
          go_wp2
          go_ret
          exact ⟨ret_b HM.out.symm, by (repeat (with_reducible first | exact Below.refl _ _ | refine Below.setCell ?_ ?_ _ | refine Below.alloc ?_ ?_ _ | refine Below.drewN ?_ _ | refine Below.drew ?_)) <;> first | omega | (simp; omega) | (simp; done)⟩
      · have t2 : decide (xs = ys) = false := by simpa using k2
        have t2' : (xs.toList == ys.toList) = false := str_no k2
        clear k1 k2
        have HM := Lib.hid (HE.out.trans (no2 t2))
        go_enter Tryz.func57, Tryz.ntmps57
        go_wp2
        go_ret
        exact ⟨ret_b HM.out.symm, by (repeat (with_reducible first | exact Below.refl _ _ | refine Below.setCell ?_ ?_ _ | refine Below.alloc ?_ ?_ _ | refine Below.drewN ?_ _ | refine Below.drew ?_)) <;> first | omega | (simp; omega) | (simp; done)⟩
    · have t1 : (xk == yk) = false := by simpa using k1
      clear k1
      have HM := Lib.hid (HE.out.trans (no1 t1))
      go_enter Tryz.func57, Tryz.ntmps57
      go_wp2
      go_ret
      exact ⟨ret_b HM.out.symm, by (repeat (with_reducible first | exact Below.refl _ _ | refine Below.setCell ?_ ?_ _ | refine Below.alloc ?_ ?_ _ | refine Below.drewN ?_ _ | refine Below.drew ?_)) <;> first | omega | (simp; omega) | (simp; done)⟩
end Go.Proofs.YtnneooidkbhbeaaGreatDoor
/- Contracts: show.SameExpr. Written by gen_sht.py. -/
namespace Go.Proofs.YtnneooidkbhbeaaGreatDoor
open Go.RowKit

abbrev SameOk (N : Nat) : Prop := ∀ (x y : SExpr) (us vs : List Value) (w : World), x.size ≤ N → x.size ≤ 1048576 → Rds w w.heap.size us x.d → Rds w w.heap.size vs y.d →
    Calls Tryz.prog 16 #[.agg us.toArray, .agg vs.toArray] w fun e w' => e = .returned (.bool (x.same y)) ∧ Below w.heap.size w w'
set_option maxHeartbeats 2000000 in
theorem sameArm_of {N : Nat} (ih : Hid (SameOk N)) (x y : SArm) (us vs : List Value) (w : World) (hN : x.e.size ≤ N) (hp : x.p.size ≤ 1048576) (he : x.e.size ≤ 1048576) (hus : Rds w w.heap.size us x.d) (hvs : Rds w w.heap.size vs y.d) :
    Calls Tryz.prog 47 #[.agg us.toArray, .agg vs.toArray] w fun e w' => e = .returned (.bool (x.same y)) ∧ Below w.heap.size w w' := by
  have HE := Lib.hid (SArm.same_eq x y)
  obtain ⟨xp, hxp⟩ : ∃ z, x.p = z := ⟨_, rfl⟩
  obtain ⟨xe, hxe⟩ : ∃ z, x.e = z := ⟨_, rfl⟩
  obtain ⟨yp, hyp⟩ : ∃ z, y.p = z := ⟨_, rfl⟩
  obtain ⟨ye, hye⟩ : ∃ z, y.e = z := ⟨_, rfl⟩
  obtain ⟨upx, uex, rfl, hpx, hex⟩ := SArm.cells hus
  obtain ⟨upy, uey, rfl, hpy, hey⟩ := SArm.cells hvs
  rw [hxp] at hpx hp
  rw [hxe] at hex hN he
  rw [hyp] at hpy
  rw [hye] at hey
  rw [hxp, hxe, hyp, hye] at HE
  have HP := Lib.hid (fun (W : World) (hW : Below w.heap.size w W) => samePat_any _ xp yp upx upy W (Nat.le_refl _) hp ((hpx.keep hW).mono hW.size) ((hpy.keep hW).mono hW.size))
  have HC := Lib.hid (fun (W : World) (hW : Below w.heap.size w W) => ih.out xe ye uex uey W hN he ((hex.keep hW).mono hW.size) ((hey.keep hW).mono hW.size))
  obtain ⟨v6px, rfl, g6px, -⟩ := SPat.cells hpx
  obtain ⟨a6px, d6px, rfl⟩ := g6px.slice_inv
  obtain ⟨v6py, rfl, g6py, -⟩ := SPat.cells hpy
  obtain ⟨a6py, d6py, rfl⟩ := g6py.slice_inv
  obtain ⟨v6ex, v7ex, rfl, g6ex, g7ex, -⟩ := SExpr.cells hex
  obtain ⟨a6ex, d6ex, rfl⟩ := g6ex.slice_inv
  obtain ⟨a7ex, d7ex, rfl⟩ := g7ex.slice_inv
  obtain ⟨v6ey, v7ey, rfl, g6ey, g7ey, -⟩ := SExpr.cells hey
  obtain ⟨a6ey, d6ey, rfl⟩ := g6ey.slice_inv
  obtain ⟨a7ey, d7ey, rfl⟩ := g7ey.slice_inv
  obtain ⟨S, hS⟩ : ∃ B, x.same y = B := ⟨_, rfl⟩
  rw [hS] at HE ⊢
  obtain ⟨q1, hq1⟩ : ∃ b, xp.same yp = b := ⟨_, rfl⟩
  obtain ⟨q2, hq2⟩ : ∃ b, xe.same ye = b := ⟨_, rfl⟩
  rw [hq1, hq2] at HE
  rw [hq1] at HP
  rw [hq2] at HC
  clear hS hq1 hq2 hpx hpy hex hey g6px g6py g6ex g7ex g6ey g7ey hus hvs hN hp he ih hxp hxe hyp hye
  go_enter Tryz.func47, Tryz.ntmps47
  go_wp2_with fail
  refine (HP.out _ (by (repeat (with_reducible first | exact Below.refl _ _ | refine Below.setCell ?_ ?_ _ | refine Below.alloc ?_ ?_ _ | refine Below.drewN ?_ _ | refine Below.drew ?_)) <;> first | omega | (simp; omega) | (simp; done))).mono ?_
  rintro e w2 ⟨rfl, hb2⟩
  have hfin : Below w.heap.size w w2 := Below.trans (by (repeat (with_reducible first | exact Below.refl _ _ | refine Below.setCell ?_ ?_ _ | refine Below.alloc ?_ ?_ _ | refine Below.drewN ?_ _ | refine Below.drew ?_)) <;> first | omega | (simp; omega) | (simp; done)) (hb2.mono (by first | omega | (simp; omega) | (simp; done)))
  have HB := (TwoB.mk' w _ _ 71).below hb2
  have zx0 : w2.cell? ⟨w.heap.size, 7, none⟩ = some (.int .u8 xe.kind) := (HB.x.cell 7).trans rfl
  have zx1 : w2.cell? ⟨w.heap.size, 8, none⟩ = some (.string xe.s) := (HB.x.cell 8).trans rfl
  have zx2 : w2.cell? ⟨w.heap.size, 9, none⟩ = some (.int .i64 xe.n) := (HB.x.cell 9).trans rfl
  have zx3 : w2.cell? ⟨w.heap.size, 10, none⟩ = some (.int .i64 xe.at_) := (HB.x.cell 10).trans rfl
  have zx4 : w2.cell? ⟨w.heap.size, 11, none⟩ = some (.int .i64 xe.line) := (HB.x.cell 11).trans rfl
  have zx5 : w2.cell? ⟨w.heap.size, 12, none⟩ = some (.int .i64 xe.col) := (HB.x.cell 12).trans rfl
  have zx6 : w2.cell? ⟨w.heap.size, 13, none⟩ = some (.slice a6ex xe.l.length d6ex) := (HB.x.cell 13).trans rfl
  have zx7 : w2.cell? ⟨w.heap.size, 14, none⟩ = some (.slice a7ex xe.arms.length d7ex) := (HB.x.cell 14).trans rfl
  have zy0 : w2.cell? ⟨w.heap.size + 1, 7, none⟩ = some (.int .u8 ye.kind) := (HB.y.cell 7).trans rfl
  have zy1 : w2.cell? ⟨w.heap.size + 1, 8, none⟩ = some (.string ye.s) := (HB.y.cell 8).trans rfl
  have zy2 : w2.cell? ⟨w.heap.size + 1, 9, none⟩ = some (.int .i64 ye.n) := (HB.y.cell 9).trans rfl
  have zy3 : w2.cell? ⟨w.heap.size + 1, 10, none⟩ = some (.int .i64 ye.at_) := (HB.y.cell 10).trans rfl
  have zy4 : w2.cell? ⟨w.heap.size + 1, 11, none⟩ = some (.int .i64 ye.line) := (HB.y.cell 11).trans rfl
  have zy5 : w2.cell? ⟨w.heap.size + 1, 12, none⟩ = some (.int .i64 ye.col) := (HB.y.cell 12).trans rfl
  have zy6 : w2.cell? ⟨w.heap.size + 1, 13, none⟩ = some (.slice a6ey ye.l.length d6ey) := (HB.y.cell 13).trans rfl
  have zy7 : w2.cell? ⟨w.heap.size + 1, 14, none⟩ = some (.slice a7ey ye.arms.length d7ey) := (HB.y.cell 14).trans rfl
  clear hb2 HB
  cases q1
  · have HM := Lib.hid (show S = false by rw [HE.out]; rfl)
    go_wp2
    go_ret
    exact ⟨ret_b HM.out.symm, hfin⟩
  · have HM := Lib.hid (show S = q2 by rw [HE.out]; rfl)
    go_wp2_with fail
    refine (HC.out _ hfin).mono ?_
    rintro e w3 ⟨rfl, hb3⟩
    have hfin3 : Below w.heap.size w w3 := hfin.trans (hb3.mono hfin.size)
    clear hb3
    go_wp2
    go_ret
    exact ⟨ret_b HM.out.symm, hfin3⟩

set_option maxHeartbeats 2000000 in
theorem sameExpr_any : ∀ (N : Nat), SameOk N := by
  intro N
  induction N with
  | zero => intro x y us vs w h; have := x.size_pos; omega
  | succ N ih =>
    intro x y us vs w hN hs hus hvs
    have IH := Lib.hid ih
    clear ih
    obtain ⟨v6, v7, rfl, h6, h7, -⟩ := SExpr.cells hus
    obtain ⟨u6, u7, rfl, g6, g7, -⟩ := SExpr.cells hvs
    have HE := Lib.hid (SExpr.same_eq x y)
    have hsz := x.size_eq
    have hlen := SExpr.sizes_len x.l
    have hlen7 := SArm.sizes_len x.arms
    have HA := Lib.hid (fun (W : World) (hW : Below w.heap.size w W) => alike_SExpr x.l y.l v6 u6 16 #[] SExpr.same W (by omega) enters_SameExpr ((h6.keep hW).mono hW.size) ((g6.keep hW).mono hW.size)
      (fun i h h2 W' us vs hW' hu hv => by
        have := IH.out x.l[i] y.l[i] us vs W' (by have := SExpr.sizes_get x.l i h; omega) (by have := SExpr.sizes_get x.l i h; omega) ((hu.keep hW').mono hW'.size) ((hv.keep hW').mono hW'.size)
        simpa using this))
    have HR := Lib.hid (fun (W : World) (hW : Below w.heap.size w W) => alike_SArm x.arms y.arms v7 u7 47 #[] SArm.same W (by omega) enters_SameExpr1 ((h7.keep hW).mono hW.size) ((g7.keep hW).mono hW.size)
      (fun i h h2 W' us vs hW' hu hv => by
        have h1 := SArm.sizes_get x.arms i h
        have h3 := SArm.size_eq x.arms[i]
        have := sameArm_of IH x.arms[i] y.arms[i] us vs W' (by omega) (by omega) (by omega) ((hu.keep hW').mono hW'.size) ((hv.keep hW').mono hW'.size)
        simpa using this))
    obtain ⟨a, c, rfl⟩ := h6.slice_inv
    obtain ⟨a', c', rfl⟩ := g6.slice_inv
    obtain ⟨a7, c7, rfl⟩ := h7.slice_inv
    obtain ⟨a7', c7', rfl⟩ := g7.slice_inv
    obtain ⟨B, hB⟩ : ∃ B, eqL SExpr.same x.l y.l = B := ⟨_, rfl⟩
    obtain ⟨B7, hB7⟩ : ∃ B, eqL SArm.same x.arms y.arms = B := ⟨_, rfl⟩
    rw [hB] at HA
    rw [hB7] at HR
    rw [hB, hB7] at HE
    obtain ⟨S, hS⟩ : ∃ B, x.same y = B := ⟨_, rfl⟩
    rw [hS] at HE
    rw [hS]
    obtain ⟨xk, hxk⟩ : ∃ z, x.kind = z := ⟨_, rfl⟩
    obtain ⟨yk, hyk⟩ : ∃ z, y.kind = z := ⟨_, rfl⟩
    obtain ⟨xs, hxs⟩ : ∃ z, x.s = z := ⟨_, rfl⟩
    obtain ⟨ys, hys⟩ : ∃ z, y.s = z := ⟨_, rfl⟩
    obtain ⟨xn, hxn⟩ : ∃ z, x.n = z := ⟨_, rfl⟩
    obtain ⟨yn, hyn⟩ : ∃ z, y.n = z := ⟨_, rfl⟩
    rw [hxk, hyk, hxs, hys, hxn, hyn] at HE
    rw [hxk, hyk, hxs, hys, hxn, hyn]
    clear hB hB7 hS hxk hyk hxs hys hxn hyn hus hvs h6 g6 h7 g7 hsz hlen hlen7 hN hs IH
    by_cases k1 : xk = yk
    · have t1 : (xk == yk) = true := by simp [k1]
      by_cases k2 : xs = ys
      · have t2 : decide (xs = ys) = true := by simp [k2]
        have t2' : (xs.toList == ys.toList) = true := str_yes k2
        by_cases k3 : xn = yn
        · have t3 : (xn == yn) = true := by simp [k3]
          have HM := Lib.hid (HE.out.trans (yes3 t1 t2 t3))
          clear k1 k2 k3 HE
          go_enter Tryz.func16, Tryz.ntmps16
          go_wp2_with fail
          refine (HA.out _ (by (repeat (with_reducible first | exact Below.refl _ _ | refine Below.setCell ?_ ?_ _ | refine Below.alloc ?_ ?_ _ | refine Below.drewN ?_ _ | refine Below.drew ?_)) <;> first | omega | (simp; omega) | (simp; done))).mono ?_
          rintro e w2 ⟨rfl, hb2⟩
          have hfin : Below w.heap.size w w2 := Below.trans (by (repeat (with_reducible first | exact Below.refl _ _ | refine Below.setCell ?_ ?_ _ | refine Below.alloc ?_ ?_ _ | refine Below.drewN ?_ _ | refine Below.drew ?_)) <;> first | omega | (simp; omega) | (simp; done)) (hb2.mono (by first | omega | (simp; omega) | (simp; done)))
          have HB := (TwoB.mk' w _ _ 28).below hb2
          have z7 : w2.cell? ⟨w.heap.size, 7, none⟩ = some (.slice a7 x.arms.length c7) := (HB.x.cell 7).trans rfl
          have y7 : w2.cell? ⟨w.heap.size + 1, 7, none⟩ = some (.slice a7' y.arms.length c7') := (HB.y.cell 7).trans rfl
          clear hb2 HB
          cases B
          · have HM2 := Lib.hid (show S = false from HM.out)
            go_wp2
            go_ret
            exact ⟨ret_b HM2.out.symm, hfin⟩
          · have HM2 := Lib.hid (show S = B7 from HM.out)
            go_wp2_with fail
            refine (HR.out _ hfin).mono ?_
            rintro e w3 ⟨rfl, hb3⟩
            have hfin3 : Below w.heap.size w w3 := hfin.trans (hb3.mono hfin.size)
            clear hb3
            go_wp2
            go_ret
            exact ⟨ret_b HM2.out.symm, hfin3⟩
        · have t3 : (xn == yn) = false := by simpa using k3
          clear k1 k2 k3
          have HM := Lib.hid (HE.out.trans (no3 t3))
          go_enter Tryz.func16, Tryz.ntmps16
          go_wp2
          go_ret
          exact ⟨ret_b HM.out.symm, by (repeat (with_reducible first | exact Below.refl _ _ | refine Below.setCell ?_ ?_ _ | refine Below.alloc ?_ ?_ _ | refine Below.drewN ?_ _ | refine Below.drew ?_)) <;> first | omega | (simp; omega) | (simp; done)⟩
      · have t2 : decide (xs = ys) = false := by simpa using k2
        have t2' : (xs.toList == ys.toList) = false := str_no k2
        clear k1 k2
        have HM := Lib.hid (HE.out.trans (no2 t2))
        go_enter Tryz.func16, Tryz.ntmps16
        go_wp2
        go_ret
        exact ⟨ret_b HM.out.symm, by (repeat (with_reducible first | exact Below.refl _ _ | refine Below.setCell ?_ ?_ _ | refine Below.alloc ?_ ?_ _ | refine Below.drewN ?_ _ | refine Below.drew ?_)) <;> first | omega | (simp; omega) | (simp; done)⟩
    · have t1 : (xk == yk) = false := by simpa using k1
      clear k1
      have HM := Lib.hid (HE.out.trans (no1 t1))
      go_enter Tryz.func16, Tryz.ntmps16
      go_wp2
      go_ret
      exact ⟨ret_b HM.out.symm, by (repeat (with_reducible first | exact Below.refl _ _ | refine Below.setCell ?_ ?_ _ | refine Below.alloc ?_ ?_ _ | refine Below.drewN ?_ _ | refine Below.drew ?_)) <;> first | omega | (simp; omega) | (simp; done)⟩
end Go.Proofs.YtnneooidkbhbeaaGreatDoor
/- Contracts: show.Same with its closures. Written by gen_shu.py. -/
namespace Go.Proofs.YtnneooidkbhbeaaGreatDoor
open Go.RowKit

def sEq (a b : ByteArray) : Bool := decide (a = b)
def SField.same (x y : SField) : Bool := x.m == y.m && x.t.same y.t
def SConD.same (x y : SConD) : Bool := decide (x.name = y.name) && eqL SField.same x.fields y.fields
def SDecl.same (x y : SDecl) : Bool := x.kind == y.kind && (decide (x.name = y.name) && (x.rc == y.rc && (eqL sEq x.params y.params && (x.e.same y.e && eqL SConD.same x.cons y.cons))))
structure SConD.Small (c : SConD) : Prop where
  nf : c.fields.length ≤ 1048576
  f : ∀ i (h : i < c.fields.length), c.fields[i].t.size ≤ 1048576
structure SDecl.Small (d : SDecl) : Prop where
  e : d.e.size ≤ 1048576
  np : d.params.length ≤ 1048576
  nc : d.cons.length ≤ 1048576
  c : ∀ i (h : i < d.cons.length), d.cons[i].Small
structure DSmall (l : List SDecl) : Prop where
  n : l.length ≤ 1048576
  d : ∀ i (h : i < l.length), l[i].Small
theorem enters_Same1 : Enters Tryz.prog 51 := enters Tryz.func51 (by kernel_rfl) rfl
theorem enters_Same11 : Enters Tryz.prog 54 := enters Tryz.func54 (by kernel_rfl) rfl
theorem enters_Same111 : Enters Tryz.prog 56 := enters Tryz.func56 (by kernel_rfl) rfl
/-- an element of a list of strings -/
theorem strAt {w : World} {v : Value} {l : List ByteArray} (h : Rd w w.heap.size v (.list 1 l.length (l.flatMap fun s => [D.str s]))) (k : Nat) (hk : k < l.length) (hl : l.length ≤ 1048576) :
    ∃ b off cap, v = .slice (some ⟨b, off, none⟩) l.length cap ∧ b < w.heap.size ∧ w.cell? ⟨b, off + k, none⟩ = some (.string l[k]) := by
  obtain ⟨b, off, cap, us, hv, hb, hc, hcell, hus⟩ := h.elem (fun _ => rfl) rfl k hk (by omega)
  obtain ⟨u, us', rfl, hu, -⟩ := hus.cons_inv
  obtain ⟨rfl, _⟩ := hu.str_inv
  have := hcell 0 _ rfl
  simp only [Nat.mul_one, Nat.add_zero] at this
  exact ⟨b, off, cap, hv, hb, this⟩
set_option maxHeartbeats 1000000 in
theorem equalS (l m : List ByteArray) (v u : Value) (w : World) (hn : l.length ≤ 1048576) (hr : Rd w w.heap.size v (.list 1 l.length (l.flatMap fun s => [D.str s]))) (hr2 : Rd w w.heap.size u (.list 1 m.length (m.flatMap fun s => [D.str s]))) :
    Calls Tryz.prog 52 #[v, u] w fun e w' => e = .returned (.bool (eqL sEq l m)) ∧ Below w.heap.size w w' := by
  obtain ⟨a, cap, rfl⟩ := hr.slice_inv
  obtain ⟨a', cap', rfl⟩ := hr2.slice_inv
  by_cases hlen : l.length = m.length
  · have t0 : ((l.length : Int) != (m.length : Int)) = false := by simp [hlen]
    have HLEN := Lib.hid hlen
    clear hlen
    go_enter Tryz.func52, Tryz.ntmps52
    go_wp2
    go_loopw [13] (fun u wr => ∃ k nq : Nat, k ≤ l.length ∧ u = .int .i64 k ∧ Hid (eqL sEq l m = eqL sEq (l.drop k) (m.drop k)) ∧ wr = w.drewN nq) (fun u _ => l.length - (intOf u).toNat)
    case atStart => exact ⟨0, 0, Nat.zero_le _, rfl, rfl, rfl⟩
    case round =>
      obtain ⟨k, nq, hk, rfl, HE, rfl⟩ := hrel
      by_cases hltx : k < l.length
      · have hlty : k < m.length := by have := HLEN.out; omega
        obtain ⟨b1, o1, cp1, q1, hb1, cell1⟩ := strAt hr k hltx hn
        obtain ⟨b2, o2, cp2, q2, hb2, cell2⟩ := strAt hr2 k hlty (by have := HLEN.out; omega)
        injection q1 with q1 _ q1'
        injection q2 with q2 _ q2'
        subst q1 q1' q2 q2'
        have HS := Lib.hid (eqL_drop sEq l m k hltx hlty)
        obtain ⟨x, hx⟩ : ∃ x, l[k] = x := ⟨_, rfl⟩
        obtain ⟨y, hy⟩ : ∃ x, m[k] = x := ⟨_, rfl⟩
        rw [hx] at cell1 HS
        rw [hy] at cell2 HS
        clear hx hy
        by_cases heq : x = y
        · have HQ := Lib.hid (show eqL sEq l m = eqL sEq (l.drop (k + 1)) (m.drop (k + 1)) by rw [HE.out, HS.out]; simp [sEq, heq])
          clear HS
          subst heq
          go_wp2_with fail
          go_quiet (fail)
          go_wp2
          go_roundw
          case rel => exact ⟨k + 1, _, hltx, by go_num, HQ, rfl⟩
          case measure => simp [intOf]; omega
        · have t2 : (x.toList != y.toList) = true := by rw [bne, str_no heq]; rfl
          have t3 : (x.toList == y.toList) = false := str_no heq
          have HQ := Lib.hid (show eqL sEq l m = false by rw [HE.out, HS.out]; simp [sEq, heq])
          clear heq
          go_wp2_with fail
          go_quiet (fail)
          go_wp2
          go_ret
          exact ⟨ret_b HQ.out.symm, by (repeat (with_reducible first | exact Below.refl _ _ | refine Below.setCell ?_ ?_ _ | refine Below.alloc ?_ ?_ _ | refine Below.drewN ?_ _ | refine Below.drew ?_)) <;> first | omega | (simp; omega) | (simp; done)⟩
      · have e1 : decide ((k : Int) < (l.length : Int)) = false := decide_eq_false (by omega)
        go_wp2
        go_ret
        exact ⟨ret_b (by rw [HE.out, eqL_end _ l m k (by omega) (by have := HLEN.out; omega)]), by (repeat (with_reducible first | exact Below.refl _ _ | refine Below.setCell ?_ ?_ _ | refine Below.alloc ?_ ?_ _ | refine Below.drewN ?_ _ | refine Below.drew ?_)) <;> first | omega | (simp; omega) | (simp; done)⟩
  · have t0 : ((l.length : Int) != (m.length : Int)) = true := by simp; omega
    have HE2 := Lib.hid (eqL_len sEq l m hlen)
    go_enter Tryz.func52, Tryz.ntmps52
    go_wp2
    go_ret
    exact ⟨ret_b HE2.out.symm, Below.refl _ _⟩
set_option maxHeartbeats 1000000 in
theorem sameField_any (x y : SField) (us vs : List Value) (w : World) (hx : x.t.size ≤ 1048576) (hus : Rds w w.heap.size us x.d) (hvs : Rds w w.heap.size vs y.d) :
    Calls Tryz.prog 56 #[.agg us.toArray, .agg vs.toArray] w fun e w' => e = .returned (.bool (x.same y)) ∧ Below w.heap.size w w' := by
  obtain ⟨ut, rfl, ht, -⟩ := SField.cells hus
  obtain ⟨vt, rfl, gt, -⟩ := SField.cells hvs
  have HC := Lib.hid (fun (W : World) (hW : Below w.heap.size w W) => sameTy_any _ x.t y.t ut vt W (Nat.le_refl _) hx ((ht.keep hW).mono hW.size) ((gt.keep hW).mono hW.size))
  obtain ⟨v6, rfl, h6, -⟩ := STy.cells ht
  obtain ⟨u6, rfl, g6, -⟩ := STy.cells gt
  obtain ⟨a, c, rfl⟩ := h6.slice_inv
  obtain ⟨a', c', rfl⟩ := g6.slice_inv
  have HE := Lib.hid (show x.same y = (x.m == y.m && x.t.same y.t) from rfl)
  obtain ⟨S, hS⟩ : ∃ B, x.same y = B := ⟨_, rfl⟩
  obtain ⟨q, hq⟩ : ∃ B, x.t.same y.t = B := ⟨_, rfl⟩
  obtain ⟨xn, hxn⟩ : ∃ B, x.m = B := ⟨_, rfl⟩
  obtain ⟨yn, hyn⟩ : ∃ B, y.m = B := ⟨_, rfl⟩
  rw [hS, hq, hxn, hyn] at HE
  rw [hq] at HC
  rw [hS, hxn, hyn]
  clear hS hq hxn hyn h6 g6 ht gt hus hvs hx
  by_cases k1 : xn = yn
  · have t1 : (xn == yn) = true := by simp [k1]
    have HM := Lib.hid (show S = q by rw [HE.out, t1]; rfl)
    clear k1 HE
    go_enter Tryz.func56, Tryz.ntmps56
    go_wp2_with fail
    refine (HC.out _ (by (repeat (with_reducible first | exact Below.refl _ _ | refine Below.setCell ?_ ?_ _ | refine Below.alloc ?_ ?_ _ | refine Below.drewN ?_ _ | refine Below.drew ?_)) <;> first | omega | (simp; omega) | (simp; done))).mono ?_
    rintro e w2 ⟨rfl, hb2⟩
    have hfin : Below w.heap.size w w2 := Below.trans (by (repeat (with_reducible first | exact Below.refl _ _ | refine Below.setCell ?_ ?_ _ | refine Below.alloc ?_ ?_ _ | refine Below.drewN ?_ _ | refine Below.drew ?_)) <;> first | omega | (simp; omega) | (simp; done)) (hb2.mono (by first | omega | (simp; omega) | (simp; done)))
    clear hb2
    go_wp2
    go_ret
    exact ⟨ret_b HM.out.symm, hfin⟩
  · have t1 : (xn == yn) = false := by simpa using k1
    have HM := Lib.hid (show S = false by rw [HE.out, t1]; rfl)
    clear k1 HE
    go_enter Tryz.func56, Tryz.ntmps56
    go_wp2
    go_ret
    exact ⟨ret_b HM.out.symm, by (repeat (with_reducible first | exact Below.refl _ _ | refine Below.setCell ?_ ?_ _ | refine Below.alloc ?_ ?_ _ | refine Below.drewN ?_ _ | refine Below.drew ?_)) <;> first | omega | (simp; omega) | (simp; done)⟩
set_option maxHeartbeats 1000000 in
theorem sameCon_any (x y : SConD) (us vs : List Value) (w : World) (hx : x.Small) (hus : Rds w w.heap.size us x.d) (hvs : Rds w w.heap.size vs y.d) :
    Calls Tryz.prog 54 #[.agg us.toArray, .agg vs.toArray] w fun e w' => e = .returned (.bool (x.same y)) ∧ Below w.heap.size w w' := by
  obtain ⟨v6, rfl, h6, -⟩ := SConD.cells hus
  obtain ⟨u6, rfl, g6, -⟩ := SConD.cells hvs
  have HA := Lib.hid (fun (W : World) (hW : Below w.heap.size w W) => alike_SField x.fields y.fields v6 u6 56 #[] SField.same W hx.nf enters_Same111 ((h6.keep hW).mono hW.size) ((g6.keep hW).mono hW.size)
    (fun i h h2 W' us vs hW' hu hv => by
      have := sameField_any x.fields[i] y.fields[i] us vs W' (hx.f i h) ((hu.keep hW').mono hW'.size) ((hv.keep hW').mono hW'.size)
      simpa using this))
  obtain ⟨a, c, rfl⟩ := h6.slice_inv
  obtain ⟨a', c', rfl⟩ := g6.slice_inv
  have HE := Lib.hid (show x.same y = (decide (x.name = y.name) && eqL SField.same x.fields y.fields) from rfl)
  obtain ⟨S, hS⟩ : ∃ B, x.same y = B := ⟨_, rfl⟩
  obtain ⟨q, hq⟩ : ∃ B, eqL SField.same x.fields y.fields = B := ⟨_, rfl⟩
  obtain ⟨xn, hxn⟩ : ∃ B, x.name = B := ⟨_, rfl⟩
  obtain ⟨yn, hyn⟩ : ∃ B, y.name = B := ⟨_, rfl⟩
  rw [hS, hq, hxn, hyn] at HE
  rw [hq] at HA
  rw [hS, hxn, hyn]
  clear hS hq hxn hyn h6 g6 hus hvs hx
  by_cases k1 : xn = yn
  · have t1 : decide (xn = yn) = true := by simp [k1]
    have t1' : (xn.toList == yn.toList) = true := str_yes k1
    have HM := Lib.hid (show S = q by rw [HE.out, t1]; rfl)
    clear k1 HE
    go_enter Tryz.func54, Tryz.ntmps54
    go_wp2_with fail
    refine (HA.out _ (by (repeat (with_reducible first | exact Below.refl _ _ | refine Below.setCell ?_ ?_ _ | refine Below.alloc ?_ ?_ _ | refine Below.drewN ?_ _ | refine Below.drew ?_)) <;> first | omega | (simp; omega) | (simp; done))).mono ?_
    rintro e w2 ⟨rfl, hb2⟩
    have hfin : Below w.heap.size w w2 := Below.trans (by (repeat (with_reducible first | exact Below.refl _ _ | refine Below.setCell ?_ ?_ _ | refine Below.alloc ?_ ?_ _ | refine Below.drewN ?_ _ | refine Below.drew ?_)) <;> first | omega | (simp; omega) | (simp; done)) (hb2.mono (by first | omega | (simp; omega) | (simp; done)))
    clear hb2
    go_wp2
    go_ret
    exact ⟨ret_b HM.out.symm, hfin⟩
  · have t1 : decide (xn = yn) = false := by simpa using k1
    have t1' : (xn.toList == yn.toList) = false := str_no k1
    have HM := Lib.hid (show S = false by rw [HE.out, t1]; rfl)
    clear k1 HE
    go_enter Tryz.func54, Tryz.ntmps54
    go_wp2
    go_ret
    exact ⟨ret_b HM.out.symm, by (repeat (with_reducible first | exact Below.refl _ _ | refine Below.setCell ?_ ?_ _ | refine Below.alloc ?_ ?_ _ | refine Below.drewN ?_ _ | refine Below.drew ?_)) <;> first | omega | (simp; omega) | (simp; done)⟩
set_option maxHeartbeats 2000000 in
theorem sameDecl_any (x y : SDecl) (us vs : List Value) (w : World) (hx : x.Small) (hus : Rds w w.heap.size us x.d) (hvs : Rds w w.heap.size vs y.d) :
    Calls Tryz.prog 51 #[.agg us.toArray, .agg vs.toArray] w fun e w' => e = .returned (.bool (x.same y)) ∧ Below w.heap.size w w' := by
  obtain ⟨v5, v6, ue, rfl, h5, h6, he, -, -⟩ := SDecl.cells hus
  obtain ⟨u5, u6, ve, rfl, g5, g6, ge, -, -⟩ := SDecl.cells hvs
  have HPR := Lib.hid (fun (W : World) (hW : Below w.heap.size w W) => equalS x.params y.params v5 u5 W hx.np ((h5.keep hW).mono hW.size) ((g5.keep hW).mono hW.size))
  have HEX := Lib.hid (fun (W : World) (hW : Below w.heap.size w W) => sameExpr_any _ x.e y.e ue ve W (Nat.le_refl _) hx.e ((he.keep hW).mono hW.size) ((ge.keep hW).mono hW.size))
  have HCN := Lib.hid (fun (W : World) (hW : Below w.heap.size w W) => alike_SConD x.cons y.cons v6 u6 54 #[] SConD.same W hx.nc enters_Same11 ((h6.keep hW).mono hW.size) ((g6.keep hW).mono hW.size)
    (fun i h h2 W' us vs hW' hu hv => by
      have := sameCon_any x.cons[i] y.cons[i] us vs W' (hx.c i h) ((hu.keep hW').mono hW'.size) ((hv.keep hW').mono hW'.size)
      simpa using this))
  obtain ⟨a5, c5, rfl⟩ := h5.slice_inv
  obtain ⟨a5', c5', rfl⟩ := g5.slice_inv
  obtain ⟨a, c, rfl⟩ := h6.slice_inv
  obtain ⟨a', c', rfl⟩ := g6.slice_inv
  obtain ⟨xe, hxe⟩ : ∃ B, x.e = B := ⟨_, rfl⟩
  obtain ⟨ye, hye⟩ : ∃ B, y.e = B := ⟨_, rfl⟩
  have HE := Lib.hid (show x.same y = (x.kind == y.kind && (decide (x.name = y.name) && (x.rc == y.rc && (eqL sEq x.params y.params && (x.e.same y.e && eqL SConD.same x.cons y.cons))))) from rfl)
  rw [hxe] at he HE HEX
  rw [hye] at ge HE HEX
  obtain ⟨v6e, v7e, rfl, k6e, k7e, -⟩ := SExpr.cells he
  obtain ⟨u6e, u7e, rfl, l6e, l7e, -⟩ := SExpr.cells ge
  obtain ⟨a6ex, d6ex, rfl⟩ := k6e.slice_inv
  obtain ⟨a7ex, d7ex, rfl⟩ := k7e.slice_inv
  obtain ⟨a6ey, d6ey, rfl⟩ := l6e.slice_inv
  obtain ⟨a7ey, d7ey, rfl⟩ := l7e.slice_inv
  obtain ⟨S, hS⟩ : ∃ B, x.same y = B := ⟨_, rfl⟩
  obtain ⟨q1, hq1⟩ : ∃ B, eqL sEq x.params y.params = B := ⟨_, rfl⟩
  obtain ⟨q2, hq2⟩ : ∃ B, xe.same ye = B := ⟨_, rfl⟩
  obtain ⟨q3, hq3⟩ : ∃ B, eqL SConD.same x.cons y.cons = B := ⟨_, rfl⟩
  obtain ⟨xk, hxk⟩ : ∃ z, x.kind = z := ⟨_, rfl⟩
  obtain ⟨yk, hyk⟩ : ∃ z, y.kind = z := ⟨_, rfl⟩
  obtain ⟨xs, hxs⟩ : ∃ z, x.name = z := ⟨_, rfl⟩
  obtain ⟨ys, hys⟩ : ∃ z, y.name = z := ⟨_, rfl⟩
  obtain ⟨xn, hxn⟩ : ∃ z, x.rc = z := ⟨_, rfl⟩
  obtain ⟨yn, hyn⟩ : ∃ z, y.rc = z := ⟨_, rfl⟩
  rw [hS, hq1, hq2, hq3, hxk, hyk, hxs, hys, hxn, hyn] at HE
  rw [hq1] at HPR
  rw [hq2] at HEX
  rw [hq3] at HCN
  rw [hS, hxk, hyk, hxs, hys, hxn, hyn]
  clear hS hq1 hq2 hq3 hxk hyk hxs hys hxn hyn h5 g5 h6 g6 he ge hus hvs hx hxe hye k6e k7e l6e l7e
  by_cases k1 : xk = yk
  · have t1 : (xk == yk) = true := by simp [k1]
    by_cases k2 : xs = ys
    · have t2 : decide (xs = ys) = true := by simp [k2]
      have t2' : (xs.toList == ys.toList) = true := str_yes k2
      by_cases k3 : xn = yn
      · have t3 : (xn == yn) = true := by simp [k3]
        have t3' : decide (xn = yn) = true := by simp [k3]
        have HM := Lib.hid (show S = (q1 && (q2 && q3)) by rw [HE.out, t1, t2, t3]; rfl)
        clear k1 k2 k3 HE
        go_enter Tryz.func51, Tryz.ntmps51
        go_wp2_with fail
        refine (HPR.out _ (by (repeat (with_reducible first | exact Below.refl _ _ | refine Below.setCell ?_ ?_ _ | refine Below.alloc ?_ ?_ _ | refine Below.drewN ?_ _ | refine Below.drew ?_)) <;> first | omega | (simp; omega) | (simp; done))).mono ?_
        rintro e w2 ⟨rfl, hb2⟩
        have hfin : Below w.heap.size w w2 := Below.trans (by (repeat (with_reducible first | exact Below.refl _ _ | refine Below.setCell ?_ ?_ _ | refine Below.alloc ?_ ?_ _ | refine Below.drewN ?_ _ | refine Below.drew ?_)) <;> first | omega | (simp; omega) | (simp; done)) (hb2.mono (by first | omega | (simp; omega) | (simp; done)))
        have HB := (TwoB.mk' w _ _ 40).below hb2
        have zx0 : w2.cell? ⟨w.heap.size, 8, none⟩ = some (.int .u8 xe.kind) := (HB.x.cell 8).trans rfl
        have zx1 : w2.cell? ⟨w.heap.size, 9, none⟩ = some (.string xe.s) := (HB.x.cell 9).trans rfl
        have zx2 : w2.cell? ⟨w.heap.size, 10, none⟩ = some (.int .i64 xe.n) := (HB.x.cell 10).trans rfl
        have zx3 : w2.cell? ⟨w.heap.size, 11, none⟩ = some (.int .i64 xe.at_) := (HB.x.cell 11).trans rfl
        have zx4 : w2.cell? ⟨w.heap.size, 12, none⟩ = some (.int .i64 xe.line) := (HB.x.cell 12).trans rfl
        have zx5 : w2.cell? ⟨w.heap.size, 13, none⟩ = some (.int .i64 xe.col) := (HB.x.cell 13).trans rfl
        have zx6 : w2.cell? ⟨w.heap.size, 14, none⟩ = some (.slice a6ex xe.l.length d6ex) := (HB.x.cell 14).trans rfl
        have zx7 : w2.cell? ⟨w.heap.size, 15, none⟩ = some (.slice a7ex xe.arms.length d7ex) := (HB.x.cell 15).trans rfl
        have zy0 : w2.cell? ⟨w.heap.size + 1, 8, none⟩ = some (.int .u8 ye.kind) := (HB.y.cell 8).trans rfl
        have zy1 : w2.cell? ⟨w.heap.size + 1, 9, none⟩ = some (.string ye.s) := (HB.y.cell 9).trans rfl
        have zy2 : w2.cell? ⟨w.heap.size + 1, 10, none⟩ = some (.int .i64 ye.n) := (HB.y.cell 10).trans rfl
        have zy3 : w2.cell? ⟨w.heap.size + 1, 11, none⟩ = some (.int .i64 ye.at_) := (HB.y.cell 11).trans rfl
        have zy4 : w2.cell? ⟨w.heap.size + 1, 12, none⟩ = some (.int .i64 ye.line) := (HB.y.cell 12).trans rfl
        have zy5 : w2.cell? ⟨w.heap.size + 1, 13, none⟩ = some (.int .i64 ye.col) := (HB.y.cell 13).trans rfl
        have zy6 : w2.cell? ⟨w.heap.size + 1, 14, none⟩ = some (.slice a6ey ye.l.length d6ey) := (HB.y.cell 14).trans rfl
        have zy7 : w2.cell? ⟨w.heap.size + 1, 15, none⟩ = some (.slice a7ey ye.arms.length d7ey) := (HB.y.cell 15).trans rfl
        have HBX := Lib.hid HB
        clear hb2 HB
        cases q1
        · have HM2 := Lib.hid (show S = false from HM.out)
          go_wp2
          go_ret
          exact ⟨ret_b HM2.out.symm, hfin⟩
        · go_wp2_with fail
          refine (HEX.out _ hfin).mono ?_
          rintro e w3 ⟨rfl, hb3⟩
          have hfin3 : Below w.heap.size w w3 := hfin.trans (hb3.mono hfin.size)
          have HB := HBX.out.below hb3
          have z6 : w3.cell? ⟨w.heap.size, 6, none⟩ = some (.slice a x.cons.length c) := (HB.x.cell 6).trans rfl
          have y6 : w3.cell? ⟨w.heap.size + 1, 6, none⟩ = some (.slice a' y.cons.length c') := (HB.y.cell 6).trans rfl
          clear hb3 HB hfin zx0 zx1 zx2 zx3 zx4 zx5 zx6 zx7 zy0 zy1 zy2 zy3 zy4 zy5 zy6 zy7
          cases q2
          · have HM2 := Lib.hid (show S = false from HM.out)
            go_wp2
            go_ret
            exact ⟨ret_b HM2.out.symm, hfin3⟩
          · have HM2 := Lib.hid (show S = q3 from HM.out)
            go_wp2_with fail
            refine (HCN.out _ hfin3).mono ?_
            rintro e w4 ⟨rfl, hb4⟩
            have hfin4 : Below w.heap.size w w4 := hfin3.trans (hb4.mono hfin3.size)
            clear hb4
            go_wp2
            go_ret
            exact ⟨ret_b HM2.out.symm, hfin4⟩
      · have t3 : (xn == yn) = false := by simpa using k3
        have t3' : decide (xn = yn) = false := by simpa using k3
        have HM := Lib.hid (show S = false by rw [HE.out, t1, t2, t3]; rfl)
        clear k1 k2 k3 HE
        go_enter Tryz.func51, Tryz.ntmps51
        go_wp2
        go_ret
        exact ⟨ret_b HM.out.symm, by (repeat (with_reducible first | exact Below.refl _ _ | refine Below.setCell ?_ ?_ _ | refine Below.alloc ?_ ?_ _ | refine Below.drewN ?_ _ | refine Below.drew ?_)) <;> first | omega | (simp; omega) | (simp; done)⟩
    · have t2 : decide (xs = ys) = false := by simpa using k2
      have t2' : (xs.toList == ys.toList) = false := str_no k2
      have HM := Lib.hid (show S = false by rw [HE.out, t1, t2]; rfl)
      clear k1 k2 HE
      go_enter Tryz.func51, Tryz.ntmps51
      go_wp2
      go_ret
      exact ⟨ret_b HM.out.symm, by (repeat (with_reducible first | exact Below.refl _ _ | refine Below.setCell ?_ ?_ _ | refine Below.alloc ?_ ?_ _ | refine Below.drewN ?_ _ | refine Below.drew ?_)) <;> first | omega | (simp; omega) | (simp; done)⟩
  · have t1 : (xk == yk) = false := by simpa using k1
    have HM := Lib.hid (show S = false by rw [HE.out, t1]; rfl)
    clear k1 HE
    go_enter Tryz.func51, Tryz.ntmps51
    go_wp2
    go_ret
    exact ⟨ret_b HM.out.symm, by (repeat (with_reducible first | exact Below.refl _ _ | refine Below.setCell ?_ ?_ _ | refine Below.alloc ?_ ?_ _ | refine Below.drewN ?_ _ | refine Below.drew ?_)) <;> first | omega | (simp; omega) | (simp; done)⟩
end Go.Proofs.YtnneooidkbhbeaaGreatDoor
/- Contracts: how deep: show.depthPat, depthTy, depthExpr. Written by gen_shd.py. -/
namespace Go.Proofs.YtnneooidkbhbeaaGreatDoor
open Go.RowKit

theorem keepS {C : World → Prop} {b : Nat} {box : Array Value} {t : TypeId} {W0 : World} (f : ∀ V, Blk V b box t → C V) {W W' : World} (h : C W ∧ Blk W b box t ∧ Below W0.heap.size W0 W) (hb : Below W.heap.size W W') : C W' ∧ Blk W' b box t ∧ Below W0.heap.size W0 W' :=
  ⟨f _ (h.2.1.below hb h.2.1.lt), h.2.1.below hb h.2.1.lt, h.2.2.trans (hb.mono h.2.2.size)⟩
theorem enters_depthPat : Enters Tryz.prog 85 := enters Tryz.func85 (by kernel_rfl) rfl
theorem enters_depthTy : Enters Tryz.prog 42 := enters Tryz.func42 (by kernel_rfl) rfl
theorem enters_depthExpr : Enters Tryz.prog 33 := enters Tryz.func33 (by kernel_rfl) rfl
theorem enters_depthExpr1 : Enters Tryz.prog 84 := enters Tryz.func84 (by kernel_rfl) rfl
set_option maxHeartbeats 1000000 in
theorem depthPat_any : ∀ (N : Nat) (x : SPat) (us : List Value) (w : World), x.size ≤ N → x.size ≤ 1048576 → Rds w w.heap.size us x.d →
    Calls Tryz.prog 85 #[.agg us.toArray] w fun e w' => e = .returned (.int .i64 x.depth) ∧ Below w.heap.size w w' := by
  intro N
  induction N with
  | zero => intro x us w h; have := x.size_pos; omega
  | succ N ih =>
    intro x us w hN hs hus
    have IH := Lib.hid ih
    clear ih
    obtain ⟨v6, rfl, h6, -⟩ := SPat.cells hus
    have HE := Lib.hid (x.depth_eq)
    have hsz := x.size_eq
    have hds := x.depth_size
    have hlen := SPat.sizes_len x.l
    have HA := Lib.hid (fun (W : World) (hW : Below w.heap.size w W) => deepest_SPat x.l v6 85 #[] SPat.depth W (by omega) enters_depthPat ((h6.keep hW).mono hW.size)
      (fun i h W' us hW' hu => by
        have := IH.out x.l[i] us W' (by have := SPat.sizes_get x.l i h; omega) (by have := SPat.sizes_get x.l i h; omega) ((hu.keep hW').mono hW'.size)
        simpa using this))
    obtain ⟨a, c, rfl⟩ := h6.slice_inv
    obtain ⟨B, hB⟩ : ∃ B, maxL SPat.depth x.l = B := ⟨_, rfl⟩
    rw [hB] at HA HE
    have hBs : B ≤ 1048576 := by have := HE.out; omega
    have HD := Lib.hid (show 1 + B = x.depth from HE.out.symm)
    clear hB hus h6 hsz hlen hN hs IH hds HE
    go_enter Tryz.func85, Tryz.ntmps85
    go_wp2_with fail
    refine (HA.out _ (by (repeat (with_reducible first | exact Below.refl _ _ | refine Below.setCell ?_ ?_ _ | refine Below.alloc ?_ ?_ _ | refine Below.drewN ?_ _ | refine Below.drew ?_)) <;> first | omega | (simp; omega) | (simp; done))).mono ?_
    rintro e w2 ⟨rfl, hb2⟩
    have hfin : Below w.heap.size w w2 := Below.trans (by (repeat (with_reducible first | exact Below.refl _ _ | refine Below.setCell ?_ ?_ _ | refine Below.alloc ?_ ?_ _ | refine Below.drewN ?_ _ | refine Below.drew ?_)) <;> first | omega | (simp; omega) | (simp; done)) (hb2.mono (by first | omega | (simp; omega) | (simp; done)))
    clear hb2
    go_wp2
    go_ret
    exact ⟨ret_i (by rw [← HD.out]; omega), hfin⟩
set_option maxHeartbeats 1000000 in
theorem depthTy_any : ∀ (N : Nat) (x : STy) (us : List Value) (w : World), x.size ≤ N → x.size ≤ 1048576 → Rds w w.heap.size us x.d →
    Calls Tryz.prog 42 #[.agg us.toArray] w fun e w' => e = .returned (.int .i64 x.depth) ∧ Below w.heap.size w w' := by
  intro N
  induction N with
  | zero => intro x us w h; have := x.size_pos; omega
  | succ N ih =>
    intro x us w hN hs hus
    have IH := Lib.hid ih
    clear ih
    obtain ⟨v6, rfl, h6, -⟩ := STy.cells hus
    have HE := Lib.hid (x.depth_eq)
    have hsz := x.size_eq
    have hds := x.depth_size
    have hlen := STy.sizes_len x.l
    have HA := Lib.hid (fun (W : World) (hW : Below w.heap.size w W) => deepest_STy x.l v6 42 #[] STy.depth W (by omega) enters_depthTy ((h6.keep hW).mono hW.size)
      (fun i h W' us hW' hu => by
        have := IH.out x.l[i] us W' (by have := STy.sizes_get x.l i h; omega) (by have := STy.sizes_get x.l i h; omega) ((hu.keep hW').mono hW'.size)
        simpa using this))
    obtain ⟨a, c, rfl⟩ := h6.slice_inv
    obtain ⟨B, hB⟩ : ∃ B, maxL STy.depth x.l = B := ⟨_, rfl⟩
    rw [hB] at HA HE
    have hBs : B ≤ 1048576 := by have := HE.out; omega
    have HD := Lib.hid (show 1 + B = x.depth from HE.out.symm)
    clear hB hus h6 hsz hlen hN hs IH hds HE
    go_enter Tryz.func42, Tryz.ntmps42
    go_wp2_with fail
    refine (HA.out _ (by (repeat (with_reducible first | exact Below.refl _ _ | refine Below.setCell ?_ ?_ _ | refine Below.alloc ?_ ?_ _ | refine Below.drewN ?_ _ | refine Below.drew ?_)) <;> first | omega | (simp; omega) | (simp; done))).mono ?_
    rintro e w2 ⟨rfl, hb2⟩
    have hfin : Below w.heap.size w w2 := Below.trans (by (repeat (with_reducible first | exact Below.refl _ _ | refine Below.setCell ?_ ?_ _ | refine Below.alloc ?_ ?_ _ | refine Below.drewN ?_ _ | refine Below.drew ?_)) <;> first | omega | (simp; omega) | (simp; done)) (hb2.mono (by first | omega | (simp; omega) | (simp; done)))
    clear hb2
    go_wp2
    go_ret
    exact ⟨ret_i (by rw [← HD.out]; omega), hfin⟩
abbrev DepthOk (N : Nat) : Prop := ∀ (x : SExpr) (us : List Value) (w : World), x.size ≤ N → x.size ≤ 1048576 → Rds w w.heap.size us x.d →
    Calls Tryz.prog 33 #[.agg us.toArray] w fun e w' => e = .returned (.int .i64 x.depth) ∧ Below w.heap.size w w'
set_option maxHeartbeats 2000000 in
theorem depthArm_of {N : Nat} (ih : Hid (DepthOk N)) (x : SArm) (us : List Value) (w : World) (hN : x.e.size ≤ N) (hp : x.p.size ≤ 1048576) (he : x.e.size ≤ 1048576) (hus : Rds w w.heap.size us x.d) :
    Calls Tryz.prog 84 #[.agg us.toArray] w fun e w' => e = .returned (.int .i64 x.depth) ∧ Below w.heap.size w w' := by
  have HE := Lib.hid x.depth_eq
  obtain ⟨xp, hxp⟩ : ∃ z, x.p = z := ⟨_, rfl⟩
  obtain ⟨xe, hxe⟩ : ∃ z, x.e = z := ⟨_, rfl⟩
  obtain ⟨upx, uex, rfl, hpx, hex⟩ := SArm.cells hus
  rw [hxp] at hpx hp
  rw [hxe] at hex hN he
  rw [hxp, hxe] at HE
  have HP := Lib.hid (fun (W : World) (hW : Below w.heap.size w W) => depthPat_any _ xp upx W (Nat.le_refl _) hp ((hpx.keep hW).mono hW.size))
  have HC := Lib.hid (fun (W : World) (hW : Below w.heap.size w W) => ih.out xe uex W hN he ((hex.keep hW).mono hW.size))
  obtain ⟨v6px, rfl, g6px, -⟩ := SPat.cells hpx
  obtain ⟨a6px, d6px, rfl⟩ := g6px.slice_inv
  obtain ⟨v6ex, v7ex, rfl, g6ex, g7ex, -⟩ := SExpr.cells hex
  obtain ⟨a6ex, d6ex, rfl⟩ := g6ex.slice_inv
  obtain ⟨a7ex, d7ex, rfl⟩ := g7ex.slice_inv
  obtain ⟨S, hS⟩ : ∃ B, x.depth = B := ⟨_, rfl⟩
  rw [hS] at HE ⊢
  obtain ⟨q1, hq1⟩ : ∃ b, xp.depth = b := ⟨_, rfl⟩
  obtain ⟨q2, hq2⟩ : ∃ b, xe.depth = b := ⟨_, rfl⟩
  rw [hq1, hq2] at HE
  rw [hq1] at HP
  rw [hq2] at HC
  clear hS hq1 hq2 hpx hex g6px g6ex g7ex hus hN hp he ih hxp hxe
  go_enter Tryz.func84, Tryz.ntmps84
  go_upto_region 1 with fail
  obtain ⟨box, hbox⟩ : ∃ b : Array Value, #[.int .u8 xp.kind, .string xp.s, .int .i64 xp.n, .int .i64 xp.at_, .int .i64 xp.line, .int .i64 xp.col, .slice a6px xp.l.length d6px, .int .u8 xe.kind, .string xe.s, .int .i64 xe.n, .int .i64 xe.at_, .int .i64 xe.line, .int .i64 xe.col, .slice a6ex xe.l.length d6ex, .slice a7ex xe.arms.length d7ex] = b := ⟨_, rfl⟩
  have HF := Lib.hid (fun (V : World) (h : Blk V w.heap.size box 71) => (⟨(h.cell 0).trans (by rw [← hbox]; rfl), (h.cell 1).trans (by rw [← hbox]; rfl), (h.cell 2).trans (by rw [← hbox]; rfl), (h.cell 3).trans (by rw [← hbox]; rfl), (h.cell 4).trans (by rw [← hbox]; rfl), (h.cell 5).trans (by rw [← hbox]; rfl), (h.cell 6).trans (by rw [← hbox]; rfl), (h.cell 7).trans (by rw [← hbox]; rfl), (h.cell 8).trans (by rw [← hbox]; rfl), (h.cell 9).trans (by rw [← hbox]; rfl), (h.cell 10).trans (by rw [← hbox]; rfl), (h.cell 11).trans (by rw [← hbox]; rfl), (h.cell 12).trans (by rw [← hbox]; rfl), (h.cell 13).trans (by rw [← hbox]; rfl), (h.cell 14).trans (by rw [← hbox]; rfl)⟩ : V.cell? ⟨w.heap.size, 0, none⟩ = some (.int .u8 xp.kind) ∧ V.cell? ⟨w.heap.size, 1, none⟩ = some (.string xp.s) ∧ V.cell? ⟨w.heap.size, 2, none⟩ = some (.int .i64 xp.n) ∧ V.cell? ⟨w.heap.size, 3, none⟩ = some (.int .i64 xp.at_) ∧ V.cell? ⟨w.heap.size, 4, none⟩ = some (.int .i64 xp.line) ∧ V.cell? ⟨w.heap.size, 5, none⟩ = some (.int .i64 xp.col) ∧ V.cell? ⟨w.heap.size, 6, none⟩ = some (.slice a6px xp.l.length d6px) ∧ V.cell? ⟨w.heap.size, 7, none⟩ = some (.int .u8 xe.kind) ∧ V.cell? ⟨w.heap.size, 8, none⟩ = some (.string xe.s) ∧ V.cell? ⟨w.heap.size, 9, none⟩ = some (.int .i64 xe.n) ∧ V.cell? ⟨w.heap.size, 10, none⟩ = some (.int .i64 xe.at_) ∧ V.cell? ⟨w.heap.size, 11, none⟩ = some (.int .i64 xe.line) ∧ V.cell? ⟨w.heap.size, 12, none⟩ = some (.int .i64 xe.col) ∧ V.cell? ⟨w.heap.size, 13, none⟩ = some (.slice a6ex xe.l.length d6ex) ∧ V.cell? ⟨w.heap.size, 14, none⟩ = some (.slice a7ex xe.arms.length d7ex)))
  obtain ⟨W0, hW0⟩ : ∃ W, w.alloc (.cells box 71) = W := ⟨_, rfl⟩
  have hb0 : Blk W0 w.heap.size box 71 := by rw [← hW0]; exact Blk.new _ _ _ _ rfl
  have hbw : Below w.heap.size w W0 := by rw [← hW0]; exact (Below.refl _ _).alloc (Nat.le_refl _) _
  have HB := Lib.hid hb0
  have HFIN := Lib.hid (fun (W : World) (hW : Below W0.heap.size W0 W) => hbw.trans (hW.mono hbw.size))
  have HP' := Lib.hid (fun (W : World) (hW : Below W0.heap.size W0 W) => HP.out W (HFIN.out W hW))
  have HC' := Lib.hid (fun (W : World) (hW : Below W0.heap.size W0 W) => HC.out W (HFIN.out W hW))
  rw [hbox, hW0]
  clear hbox hW0 hb0 hbw HP HC
  obtain ⟨z0, z1, z2, z3, z4, z5, z6, z7, z8, z9, z10, z11, z12, z13, z14⟩ := HF.out W0 HB.out
  go_region_held3 (fun w' => (w'.cell? ⟨w.heap.size, 0, none⟩ = some (.int .u8 xp.kind) ∧ w'.cell? ⟨w.heap.size, 1, none⟩ = some (.string xp.s) ∧ w'.cell? ⟨w.heap.size, 2, none⟩ = some (.int .i64 xp.n) ∧ w'.cell? ⟨w.heap.size, 3, none⟩ = some (.int .i64 xp.at_) ∧ w'.cell? ⟨w.heap.size, 4, none⟩ = some (.int .i64 xp.line) ∧ w'.cell? ⟨w.heap.size, 5, none⟩ = some (.int .i64 xp.col) ∧ w'.cell? ⟨w.heap.size, 6, none⟩ = some (.slice a6px xp.l.length d6px) ∧ w'.cell? ⟨w.heap.size, 7, none⟩ = some (.int .u8 xe.kind) ∧ w'.cell? ⟨w.heap.size, 8, none⟩ = some (.string xe.s) ∧ w'.cell? ⟨w.heap.size, 9, none⟩ = some (.int .i64 xe.n) ∧ w'.cell? ⟨w.heap.size, 10, none⟩ = some (.int .i64 xe.at_) ∧ w'.cell? ⟨w.heap.size, 11, none⟩ = some (.int .i64 xe.line) ∧ w'.cell? ⟨w.heap.size, 12, none⟩ = some (.int .i64 xe.col) ∧ w'.cell? ⟨w.heap.size, 13, none⟩ = some (.slice a6ex xe.l.length d6ex) ∧ w'.cell? ⟨w.heap.size, 14, none⟩ = some (.slice a7ex xe.arms.length d7ex)) ∧ Blk w' w.heap.size box 71 ∧ Below W0.heap.size W0 w') (first | assumption | exact ⟨⟨z0, z1, z2, z3, z4, z5, z6, z7, z8, z9, z10, z11, z12, z13, z14⟩, HB.out, Below.refl _ _⟩ | exact ⟨HF.out _ (Blk.drew HB.out), Blk.drew HB.out, (Below.refl _ _).drew⟩ | exact keepS HF.out ‹_› ‹Below _ _ _›) (first | (go_at_call 85; refine (HP'.out _ (And.right (And.right ‹_ ∧ _ ∧ Below W0.heap.size W0 _›))).mono ?_; rintro _ w5 ⟨rfl, hb5⟩) | (go_at_call 33; refine (HC'.out _ (And.right (And.right ‹_ ∧ _ ∧ Below W0.heap.size W0 _›))).mono ?_; rintro _ w5 ⟨rfl, hb5⟩))
  all_goals
    go_wp2
    all_goals
      go_ret
      exact ⟨ret_i (by rw [HE.out]; omega), HFIN.out _ (And.right (And.right ‹_ ∧ _ ∧ Below W0.heap.size W0 _›))⟩
set_option maxHeartbeats 2000000 in
theorem depthExpr_any : ∀ (N : Nat), DepthOk N := by
  intro N
  induction N with
  | zero => intro x us w h; have := x.size_pos; omega
  | succ N ih =>
    intro x us w hN hs hus
    have IH := Lib.hid ih
    clear ih
    obtain ⟨v6, v7, rfl, h6, h7, -⟩ := SExpr.cells hus
    have HE := Lib.hid (x.depth_eq)
    have hsz := x.size_eq
    have hds := x.depth_size
    have hlen := SExpr.sizes_len x.l
    have hlen7 := SArm.sizes_len x.arms
    have HA := Lib.hid (fun (W : World) (hW : Below w.heap.size w W) => deepest_SExpr x.l v6 33 #[] SExpr.depth W (by omega) enters_depthExpr ((h6.keep hW).mono hW.size)
      (fun i h W' us hW' hu => by
        have := IH.out x.l[i] us W' (by have := SExpr.sizes_get x.l i h; omega) (by have := SExpr.sizes_get x.l i h; omega) ((hu.keep hW').mono hW'.size)
        simpa using this))
    have HR := Lib.hid (fun (W : World) (hW : Below w.heap.size w W) => deepest_SArm x.arms v7 84 #[] SArm.depth W (by omega) enters_depthExpr1 ((h7.keep hW).mono hW.size)
      (fun i h W' us hW' hu => by
        have h1 := SArm.sizes_get x.arms i h
        have h3 := SArm.size_eq x.arms[i]
        have := depthArm_of IH x.arms[i] us W' (by omega) (by omega) (by omega) ((hu.keep hW').mono hW'.size)
        simpa using this))
    obtain ⟨a, c, rfl⟩ := h6.slice_inv
    obtain ⟨a7, c7, rfl⟩ := h7.slice_inv
    obtain ⟨q1, hq1⟩ : ∃ B, maxL SExpr.depth x.l = B := ⟨_, rfl⟩
    obtain ⟨q2, hq2⟩ : ∃ B, maxL SArm.depth x.arms = B := ⟨_, rfl⟩
    rw [hq1] at HA
    rw [hq2] at HR
    rw [hq1, hq2] at HE
    have hB1 : q1 ≤ 1048576 := by have := HE.out; omega
    have hB2 : q2 ≤ 1048576 := by have := HE.out; omega
    obtain ⟨S, hS⟩ : ∃ B, x.depth = B := ⟨_, rfl⟩
    rw [hS] at HE ⊢
    have wr1 : IntKind.i64.wrap (1 + (q1 : Int)) = 1 + (q1 : Int) := Go.IntWalk.i64_in _ (by omega)
    have wr2 : IntKind.i64.wrap (1 + (q2 : Int)) = 1 + (q2 : Int) := Go.IntWalk.i64_in _ (by omega)
    clear hq1 hq2 hS hus h6 h7 hsz hlen hlen7 hN hs IH hds
    go_enter Tryz.func33, Tryz.ntmps33
    go_upto_region 2 with fail
    obtain ⟨box, hbox⟩ : ∃ b : Array Value, #[.int .u8 x.kind, .string x.s, .int .i64 x.n, .int .i64 x.at_, .int .i64 x.line, .int .i64 x.col, .slice a x.l.length c, .slice a7 x.arms.length c7] = b := ⟨_, rfl⟩
    have HF := Lib.hid (fun (V : World) (h : Blk V w.heap.size box 28) => (⟨(h.cell 6).trans (by rw [← hbox]; rfl), (h.cell 7).trans (by rw [← hbox]; rfl)⟩ : V.cell? ⟨w.heap.size, 6, none⟩ = some (.slice a x.l.length c) ∧ V.cell? ⟨w.heap.size, 7, none⟩ = some (.slice a7 x.arms.length c7)))
    obtain ⟨W0, hW0⟩ : ∃ W, w.alloc (.cells box 28) = W := ⟨_, rfl⟩
    have hb0 : Blk W0 w.heap.size box 28 := by rw [← hW0]; exact Blk.new _ _ _ _ rfl
    have hbw : Below w.heap.size w W0 := by rw [← hW0]; exact (Below.refl _ _).alloc (Nat.le_refl _) _
    have HB := Lib.hid hb0
    have HFIN := Lib.hid (fun (W : World) (hW : Below W0.heap.size W0 W) => hbw.trans (hW.mono hbw.size))
    have HP' := Lib.hid (fun (W : World) (hW : Below W0.heap.size W0 W) => HA.out W (HFIN.out W hW))
    have HC' := Lib.hid (fun (W : World) (hW : Below W0.heap.size W0 W) => HR.out W (HFIN.out W hW))
    rw [hbox, hW0]
    clear hbox hW0 hb0 hbw HA HR
    obtain ⟨z6, z7⟩ := HF.out W0 HB.out

    go_region_held3 (fun w' => (w'.cell? ⟨w.heap.size, 6, none⟩ = some (.slice a x.l.length c) ∧ w'.cell? ⟨w.heap.size, 7, none⟩ = some (.slice a7 x.arms.length c7)) ∧ Blk w' w.heap.size box 28 ∧ Below W0.heap.size W0 w') (first | assumption | exact ⟨⟨z6, z7⟩, HB.out, Below.refl _ _⟩ | exact ⟨HF.out _ (Blk.drew HB.out), Blk.drew HB.out, (Below.refl _ _).drew⟩ | exact keepS HF.out ‹_› ‹Below _ _ _›) (first | (go_at_call 86; refine (HP'.out _ (And.right (And.right ‹_ ∧ _ ∧ Below W0.heap.size W0 _›))).mono ?_; rintro _ w5 ⟨rfl, hb5⟩) | (go_at_call 87; refine (HC'.out _ (And.right (And.right ‹_ ∧ _ ∧ Below W0.heap.size W0 _›))).mono ?_; rintro _ w5 ⟨rfl, hb5⟩))
    all_goals
      go_wp2
      all_goals
        go_ret
        exact ⟨ret_i (by rw [HE.out]; omega), HFIN.out _ (And.right (And.right ‹_ ∧ _ ∧ Below W0.heap.size W0 _›))⟩
end Go.Proofs.YtnneooidkbhbeaaGreatDoor
