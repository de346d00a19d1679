/- Contracts: ty.Same. -/
import Derived.Test.YtpndkjjkdeingaaGreatDoorInE
set_option linter.unusedVariables false
set_option linter.unusedSimpArgs false
namespace Go.Proofs.YtpndkjjkdeingaaGreatDoor
open Go.RowKit

namespace Ty
mutual
def same : Ty → Ty → Bool
  | .mk k n v c l, .mk k' n' v' c' l' => k == k' && (n == n' && ((v == v' && c == c') && sames l l'))
def sames : List Ty → List Ty → Bool
  | [], [] => true
  | x :: r, y :: t => x.same y && sames r t
  | _, _ => false
end
theorem sames_eq : ∀ l m : List Ty, sames l m = eqL same l m
  | [], [] => by simp [sames, eqL]
  | [], _ :: _ => by simp [sames, eqL]
  | _ :: _, [] => by simp [sames, eqL]
  | x :: r, y :: t => by simp [sames, eqL, sames_eq r t]
theorem same_eq (x y : Ty) : x.same y = (x.kind == y.kind && (x.n == y.n && ((x.v == y.v && x.c == y.c) && eqL same x.l y.l))) := by
  cases x; cases y; simp only [same, kind, n, v, c, l, sames_eq]
mutual
theorem same_refl : ∀ x : Ty, x.same x = true
  | .mk k n v c l => by simp [same, sames_refl l]
theorem sames_refl : ∀ l : List Ty, sames l l = true
  | [] => by simp [sames]
  | x :: r => by simp [sames, same_refl x, sames_refl r]
end
end Ty
theorem no1 {a b c d : Bool} (h : a = false) : (a && (b && (c && d))) = false := by rw [h]; rfl
theorem no2 {a b c d : Bool} (h : b = false) : (a && (b && (c && d))) = false := by rw [h]; cases a <;> rfl
theorem no3 {a b c d : Bool} (h : c = false) : (a && (b && (c && d))) = false := by rw [h]; cases a <;> cases b <;> rfl
theorem yes3 {a b c d : Bool} (h1 : a = true) (h2 : b = true) (h3 : c = true) : (a && (b && (c && d))) = d := by rw [h1, h2, h3]; rfl
theorem enters_tySame : Enters Tryz.prog 12 := enters Tryz.func12 (by kernel_rfl) rfl
set_option maxHeartbeats 2000000 in
theorem tysame_any : ∀ (N : Nat) (x y : Ty) (us vs : List Value) (w : World), x.size ≤ N → x.size ≤ 1048576 → Rds w w.heap.size us x.d → Rds w w.heap.size vs y.d →
    Calls Tryz.prog 12 #[.agg us.toArray, .agg vs.toArray] w fun e w' => e = .returned (.bool (x.same y)) ∧ Below w.heap.size w w' := by
  intro N
  induction N with
  | zero => intro x y us vs w h; have := size_pos x; omega
  | succ N ih =>
    intro x y us vs w hN hs hus hvs
    have IH := Lib.hid ih
    clear ih
    obtain ⟨v6, rfl, h6, -⟩ := Ty.cells hus
    obtain ⟨u6, rfl, g6, -⟩ := Ty.cells hvs
    have HE := Lib.hid (Ty.same_eq x y)
    have hsz := size_eq x
    have hlen := sizes_len x.l
    have HA := Lib.hid (fun (W : World) (hW : Below w.heap.size w W) => eqf_Ty x.l y.l v6 u6 12 #[] Ty.same W (by omega) enters_tySame ((h6.keep hW).mono hW.size) ((g6.keep hW).mono hW.size)
      (fun i h h2 W' us vs hW' hu hv => by
        have := IH.out x.l[i] y.l[i] us vs W' (by have := sizes_get x.l i h; omega) (by have := sizes_get x.l i h; omega) ((hu.keep hW').mono hW'.size) ((hv.keep hW').mono hW'.size)
        simpa using this))
    obtain ⟨a, c, rfl⟩ := h6.slice_inv
    obtain ⟨a', c', rfl⟩ := g6.slice_inv
    obtain ⟨B, hB⟩ : ∃ B, eqL Ty.same x.l y.l = B := ⟨_, rfl⟩
    rw [hB] at HA HE
    obtain ⟨S, hS⟩ : ∃ B, x.same y = B := ⟨_, rfl⟩
    rw [hS] at HE
    rw [hS]
    obtain ⟨xk, hxk⟩ : ∃ z, x.kind = z := ⟨_, rfl⟩
    obtain ⟨yk, hyk⟩ : ∃ z, y.kind = z := ⟨_, rfl⟩
    obtain ⟨xn, hxn⟩ : ∃ z, x.n = z := ⟨_, rfl⟩
    obtain ⟨yn, hyn⟩ : ∃ z, y.n = z := ⟨_, rfl⟩
    obtain ⟨xv, hxv⟩ : ∃ z, x.v = z := ⟨_, rfl⟩
    obtain ⟨yv, hyv⟩ : ∃ z, y.v = z := ⟨_, rfl⟩
    obtain ⟨xc, hxc⟩ : ∃ z, x.c = z := ⟨_, rfl⟩
    obtain ⟨yc, hyc⟩ : ∃ z, y.c = z := ⟨_, rfl⟩
    rw [hxk, hyk, hxn, hyn, hxv, hyv, hxc, hyc] at HE
    rw [hxk, hyk, hxn, hyn, hxv, hyv, hxc, hyc]
    clear hB hS hxk hyk hxn hyn hxv hyv hxc hyc hus hvs h6 g6 hsz hlen hN hs IH
    by_cases k1 : xk = yk
    · have t1 : (xk == yk) = true := by simp [k1]
      by_cases k2 : xn = yn
      · have t2 : (xn == yn) = true := by simp [k2]
        by_cases k3 : xv = yv
        · have t3 : (xv == yv) = true := by simp [k3]
          by_cases k4 : xc = yc
          · have t4 : (xc == yc) = true := by simp [k4]
            have t5 : (xv == yv && xc == yc) = true := by rw [t3, t4]; rfl
            have HM := Lib.hid (HE.out.trans (yes3 t1 t2 t5))
            clear k1 k2 k3 k4 HE
            go_enter Tryz.func12, Tryz.ntmps12
            go_wp2_with fail
            refine (HA.out _ (by (repeat (with_reducible first | exact Below.refl _ _ | refine Below.setCell ?_ ?_ _ | refine Below.alloc ?_ ?_ _ | refine Below.drewN ?_ _ | refine Below.drew ?_)) <;> first | omega | (simp; omega) | (simp; done))).mono ?_
            rintro e w2 ⟨rfl, hb2⟩
            have hfin : Below w.heap.size w w2 := Below.trans (by (repeat (with_reducible first | exact Below.refl _ _ | refine Below.setCell ?_ ?_ _ | refine Below.alloc ?_ ?_ _ | refine Below.drewN ?_ _ | refine Below.drew ?_)) <;> first | omega | (simp; omega) | (simp; done)) (hb2.mono (by first | omega | (simp; omega) | (simp; done)))
            clear hb2
            go_wp2
            go_ret
            exact ⟨ret_b HM.out.symm, hfin⟩
          · have t4 : (xc == yc) = false := by simpa using k4
            have t5 : (xv == yv && xc == yc) = false := by rw [t4]; cases (xv == yv) <;> rfl
            clear k1 k2 k3 k4
            have HM := Lib.hid (HE.out.trans (no3 t5))
            go_enter Tryz.func12, Tryz.ntmps12
            go_wp2
            go_ret
            exact ⟨ret_b HM.out.symm, by (repeat (with_reducible first | exact Below.refl _ _ | refine Below.setCell ?_ ?_ _ | refine Below.alloc ?_ ?_ _ | refine Below.drewN ?_ _ | refine Below.drew ?_)) <;> first | omega | (simp; omega) | (simp; done)⟩
        · have t3 : (xv == yv) = false := by simpa using k3
          have t5 : (xv == yv && xc == yc) = false := by rw [t3]; rfl
          clear k1 k2 k3
          have HM := Lib.hid (HE.out.trans (no3 t5))
          go_enter Tryz.func12, Tryz.ntmps12
          go_wp2
          go_ret
          exact ⟨ret_b HM.out.symm, by (repeat (with_reducible first | exact Below.refl _ _ | refine Below.setCell ?_ ?_ _ | refine Below.alloc ?_ ?_ _ | refine Below.drewN ?_ _ | refine Below.drew ?_)) <;> first | omega | (simp; omega) | (simp; done)⟩
      · have t2 : (xn == yn) = false := by simpa using k2
        clear k1 k2
        have HM := Lib.hid (HE.out.trans (no2 t2))
        go_enter Tryz.func12, Tryz.ntmps12
        go_wp2
        go_ret
        exact ⟨ret_b HM.out.symm, by (repeat (with_reducible first | exact Below.refl _ _ | refine Below.setCell ?_ ?_ _ | refine Below.alloc ?_ ?_ _ | refine Below.drewN ?_ _ | refine Below.drew ?_)) <;> first | omega | (simp; omega) | (simp; done)⟩
    · have t1 : (xk == yk) = false := by simpa using k1
      clear k1
      have HM := Lib.hid (HE.out.trans (no1 t1))
      go_enter Tryz.func12, Tryz.ntmps12
      go_wp2
      go_ret
      exact ⟨ret_b HM.out.symm, by (repeat (with_reducible first | exact Below.refl _ _ | refine Below.setCell ?_ ?_ _ | refine Below.alloc ?_ ?_ _ | refine Below.drewN ?_ _ | refine Below.drew ?_)) <;> first | omega | (simp; omega) | (simp; done)⟩
end Go.Proofs.YtpndkjjkdeingaaGreatDoor
