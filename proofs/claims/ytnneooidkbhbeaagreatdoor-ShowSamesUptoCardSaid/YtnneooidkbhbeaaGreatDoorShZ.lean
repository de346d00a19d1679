/- Contracts of the document's answer for layer 11: SamePat, SameTy, SameExpr. Written by gen_shr.py. -/
import Derived.Test.YtnneooidkbhbeaaGreatDoorShD
import Derived.Test.YtnneooidkbhbeaaGreatDoorExp
import Derived.Deep.CutBlock
import Derived.Deep.DeepCutAuto
set_option linter.unusedVariables false
set_option linter.unusedSimpArgs false
namespace Go.Proofs.YtnneooidkbhbeaaGreatDoor
open Go.RowKit


set_option maxRecDepth 100000 in
set_option maxHeartbeats 4000000 in
theorem rsamePat_any : ∀ (N : Nat) (x y : SPat) (us vs : List Value) (w : World), x.size ≤ N → x.size ≤ 1048576 → Rds w w.heap.size us x.d → Rds w w.heap.size vs y.d →
    Calls Tryz.prog 49 #[.agg us.toArray, .agg vs.toArray] w fun e w' => e = .returned (.bool (x.same y)) ∧ Below w.heap.size w w' := by
  intro N
  induction N with
  | zero => intro x y us vs w h; have := x.size_pos; omega
  | succ N ih =>
    intro x y us vs w hN hs hus hvs
    have IH := Lib.hid ih
    clear ih
    obtain ⟨v6, rfl, h6, -⟩ := SPat.cells hus
    obtain ⟨u6, rfl, g6, -⟩ := SPat.cells hvs
    have HE := Lib.hid (SPat.same_eq x y)
    have hsz := x.size_eq
    have hlen := SPat.sizes_len x.l
    have H6 := Lib.hid h6
    have G6 := Lib.hid g6
    obtain ⟨a, c, rfl⟩ := h6.slice_inv
    obtain ⟨a', c', rfl⟩ := g6.slice_inv
    have hN2 : SPat.sizes x.l ≤ N ∧ SPat.sizes x.l ≤ 1048576 := by omega
    have hl0 : x.l.length ≤ 1048576 := by omega
    obtain ⟨S, hS⟩ : ∃ B, x.same y = B := ⟨_, rfl⟩
    rw [hS] at HE
    rw [hS]
    obtain ⟨xl, hxl⟩ : ∃ z, x.l = z := ⟨_, rfl⟩
    obtain ⟨yl, hyl⟩ : ∃ z, y.l = z := ⟨_, rfl⟩
    rw [hxl, hyl] at HE
    rw [hxl] at H6 hN2 hl0 ⊢
    rw [hyl] at G6 ⊢
    obtain ⟨xk, hxk⟩ : ∃ z, x.kind = z := ⟨_, rfl⟩
    obtain ⟨yk, hyk⟩ : ∃ z, y.kind = z := ⟨_, rfl⟩
    obtain ⟨xs, hxs⟩ : ∃ z, x.s = z := ⟨_, rfl⟩
    obtain ⟨ys, hys⟩ : ∃ z, y.s = z := ⟨_, rfl⟩
    obtain ⟨xn, hxn⟩ : ∃ z, x.n = z := ⟨_, rfl⟩
    obtain ⟨yn, hyn⟩ : ∃ z, y.n = z := ⟨_, rfl⟩
    rw [hxk, hyk, hxs, hys, hxn, hyn] at HE
    rw [hxk, hyk, hxs, hys, hxn, hyn]
    clear hS hxl hyl hxk hyk hxs hys hxn hyn hus hvs h6 g6 hsz hlen hN hs
    by_cases k1 : xk = yk
    · have t1 : (xk == yk) = true := by simp [k1]
      by_cases k2 : xs = ys
      · have t2 : decide (xs = ys) = true := by simp [k2]
        by_cases k3 : xn = yn
        · have t3 : (xn == yn) = true := by simp [k3]
          have HM := Lib.hid (HE.out.trans (yes3 t1 t2 t3))
          clear HE t1 t2 t3
          subst k1 k2 k3
          by_cases k4 : xl.length = yl.length
          · have t4 : ((xl.length : Int) != (yl.length : Int)) = false := by simp [k4]
            have HL6 := Lib.hid k4
            clear k4
            go_enter Tryz.func49, Tryz.ntmps49
            go_wp2
            obtain ⟨bx, hbx⟩ : ∃ b : Array Value, #[.int .u8 xk, .string xs, .int .i64 xn, .int .i64 x.at_, .int .i64 x.line, .int .i64 x.col, .slice a xl.length c] = b := ⟨_, rfl⟩
            obtain ⟨yb, hby⟩ : ∃ b : Array Value, #[.int .u8 xk, .string xs, .int .i64 xn, .int .i64 y.at_, .int .i64 y.line, .int .i64 y.col, .slice a' yl.length c'] = b := ⟨_, rfl⟩
            have b6 : bx[6]? = some (.slice a xl.length c) := by rw [← hbx]; rfl
            have e6 : yb[6]? = some (.slice a' yl.length c') := by rw [← hby]; rfl
            have HB0 := Lib.hid (TwoB.mk' w bx yb 69)
            obtain ⟨W0, hW0⟩ : ∃ W, (w.alloc (.cells bx 69)).alloc (.cells yb 69) = W := ⟨_, rfl⟩
            rw [hW0] at HB0
            rw [hbx, hby, hW0]
            clear hbx hby hW0
            go_loopw [5] (fun u wr => ∃ k : Nat, k ≤ xl.length ∧ u = .int .i64 k ∧ Hid (eqL SPat.same xl yl = eqL SPat.same (xl.drop k) (yl.drop k)) ∧ Hid (TwoB w wr bx yb 69)) (fun u _ => xl.length - (intOf u).toNat)
            case atStart => exact ⟨0, Nat.zero_le _, rfl, rfl, HB0⟩
            case round =>
              obtain ⟨wo, rfl⟩ : ∃ z, z = wr := ⟨_, rfl⟩
              obtain ⟨k, hk, rfl, HK, HB⟩ := hrel
              have hbel := HB.out.bel
              have hszo := hbel.size
              have x6 := (HB.out.x.cell 6).trans b6
              have y6 := (HB.out.y.cell 6).trans e6
              by_cases hltx : k < xl.length
              · have hlty : k < yl.length := by have := HL6.out; omega
                obtain ⟨blx, offx, cpx, usx, hvx, hbx, hcx, hcellx, hux⟩ := H6.out.elem SPat.d_len rfl k hltx (by omega)
                injection hvx with hax hnx hcapx
                subst hax hcapx
                obtain ⟨bly, offy, cpy, usy, hvy, hby, hcy, hcelly, huy⟩ := G6.out.elem SPat.d_len rfl k hlty (by omega)
                injection hvy with hay hny hcapy
                subst hay hcapy
                have HC := Lib.hid (fun (W : World) (hW : Below w.heap.size w W) => IH.out xl[k] yl[k] usx usy W (by have := SPat.sizes_get xl k hltx; omega) (by have := SPat.sizes_get xl k hltx; omega) ((hux.keep hW).mono hW.size) ((huy.keep hW).mono hW.size))
                obtain ⟨q, hq⟩ : ∃ b, SPat.same xl[k] yl[k] = b := ⟨_, rfl⟩
                rw [hq] at HC
                obtain ⟨v6x, rfl, g6x, -⟩ := SPat.cells hux
                obtain ⟨a6x, d6x, rfl⟩ := g6x.slice_inv
                obtain ⟨v6y, rfl, g6y, -⟩ := SPat.cells huy
                obtain ⟨a6y, d6y, rfl⟩ := g6y.slice_inv
                have cx0 := (hbel.cell (p := ⟨blx, offx + k * 7, none⟩) hbx).trans (hcellx 0 _ rfl)
                have cx1 := (hbel.cell (p := ⟨blx, offx + k * 7 + 1, none⟩) hbx).trans (hcellx 1 _ rfl)
                have cx2 := (hbel.cell (p := ⟨blx, offx + k * 7 + 2, none⟩) hbx).trans (hcellx 2 _ rfl)
                have cx3 := (hbel.cell (p := ⟨blx, offx + k * 7 + 3, none⟩) hbx).trans (hcellx 3 _ rfl)
                have cx4 := (hbel.cell (p := ⟨blx, offx + k * 7 + 4, none⟩) hbx).trans (hcellx 4 _ rfl)
                have cx5 := (hbel.cell (p := ⟨blx, offx + k * 7 + 5, none⟩) hbx).trans (hcellx 5 _ rfl)
                have cx6 := (hbel.cell (p := ⟨blx, offx + k * 7 + 6, none⟩) hbx).trans (hcellx 6 _ rfl)
                have cy0 := (hbel.cell (p := ⟨bly, offy + k * 7, none⟩) hby).trans (hcelly 0 _ rfl)
                have cy1 := (hbel.cell (p := ⟨bly, offy + k * 7 + 1, none⟩) hby).trans (hcelly 1 _ rfl)
                have cy2 := (hbel.cell (p := ⟨bly, offy + k * 7 + 2, none⟩) hby).trans (hcelly 2 _ rfl)
                have cy3 := (hbel.cell (p := ⟨bly, offy + k * 7 + 3, none⟩) hby).trans (hcelly 3 _ rfl)
                have cy4 := (hbel.cell (p := ⟨bly, offy + k * 7 + 4, none⟩) hby).trans (hcelly 4 _ rfl)
                have cy5 := (hbel.cell (p := ⟨bly, offy + k * 7 + 5, none⟩) hby).trans (hcelly 5 _ rfl)
                have cy6 := (hbel.cell (p := ⟨bly, offy + k * 7 + 6, none⟩) hby).trans (hcelly 6 _ rfl)
                have e1 : decide ((k : Int) < (xl.length : Int)) = true := decide_eq_true (by omega)
                have i0 : (0 : Int) ≤ (k : Int) := by omega
                have i1 : (k : Int) < (xl.length : Int) := by omega
                have i2 : (k : Int) < (yl.length : Int) := by omega
                have HS := Lib.hid (eqL_drop SPat.same xl yl k hltx hlty)
                clear hcellx hcelly hux huy g6x g6y
                go_upto_region 6 with fail
                rw [hq] at HS
                refine wp_region_segs [10] (by kernel_rfl) (by kernel_rfl) ?_
                rw [wpSegs]
                simp only [List.take_succ_cons, List.take_zero, List.drop_succ_cons, List.drop_zero]
                repeat (go_big_quiet_step (fail))
                refine wpQuiet_nil ?_
                rintro _ ⟨nq, rfl⟩
                go_wp2_with (go_at_call 49; refine (HC.out _ (Below.drewN hbel _)).mono ?_; rintro e w2 ⟨rfl, hb2⟩)
                have HI2 := Lib.hid (HB.out.below (Below.trans (Below.drewN (Below.refl _ _) _) hb2))
                clear hb2 cx0 cy0 cx1 cy1 cx2 cy2 cx3 cy3 cx4 cy4 cx5 cy5 cx6 cy6
                cases q
                · have := 0
                  clear this
                  show wpSegs _ _ _ _ _ _ _
                  rw [wpSegs]
                  repeat (go_big_quiet_step (fail))
                  refine wpQuiet_nil ?_
                  rintro _ ⟨nq2, rfl⟩
                  go_wp2
                  go_ret
                  exact ⟨ret_b (by rw [HM.out, HK.out, HS.out]; rfl), Below.drewN HI2.out.bel _⟩
                · have HK2 := Lib.hid (show eqL SPat.same xl yl = eqL SPat.same (xl.drop (k + 1)) (yl.drop (k + 1)) by rw [HK.out, HS.out]; rfl)
                  show wpSegs _ _ _ _ _ _ _
                  rw [wpSegs]
                  repeat (go_big_quiet_step (fail))
                  refine wpQuiet_nil ?_
                  rintro _ ⟨nq2, rfl⟩
                  go_wp2
                  go_roundw
                  case rel => exact ⟨k + 1, hltx, by go_num, HK2, Lib.hid (HI2.out.below (Below.drewN (Below.refl _ _) _))⟩
                  case measure => simp [intOf]; omega
              · have e1 : decide ((k : Int) < (xl.length : Int)) = false := decide_eq_false (by omega)
                have HKE := Lib.hid (HK.out.trans (eqL_end SPat.same xl yl k (by omega) (by have := HL6.out; omega)))
                have e1' : decide (k < xl.length) = false := decide_eq_false (by omega)
                clear hk hltx
                go_wp2
                go_ret
                exact ⟨ret_b (by rw [HM.out, HKE.out]), hbel⟩
          · have t4 : ((xl.length : Int) != (yl.length : Int)) = true := by first | (simp; done) | (simp; omega)
            have HE := Lib.hid (HM.out.trans (show _ = false by simp [eqL_len SPat.same xl yl k4]))
            clear HM
            have HM := Lib.hid (HE.out.trans (rfl))
            go_enter Tryz.func49, Tryz.ntmps49
            go_wp2
            go_ret
            exact ⟨ret_b HM.out.symm, by (repeat (with_reducible first | exact Below.refl _ _ | refine Below.setCell ?_ ?_ _ | refine Below.alloc ?_ ?_ _ | refine Below.drewN ?_ _ | refine Below.drew ?_)) <;> first | omega | (simp; omega) | (simp; done)⟩
        · have t3 : (xn == yn) = false := by simpa using k3
          have t3' : (xn != yn) = true := by simpa using k3
          have HM := Lib.hid (HE.out.trans (no3 t3))
          clear HE t1 t2 t3
          subst k1 k2
          go_enter Tryz.func49, Tryz.ntmps49
          go_wp2
          go_ret
          exact ⟨ret_b HM.out.symm, by (repeat (with_reducible first | exact Below.refl _ _ | refine Below.setCell ?_ ?_ _ | refine Below.alloc ?_ ?_ _ | refine Below.drewN ?_ _ | refine Below.drew ?_)) <;> first | omega | (simp; omega) | (simp; done)⟩
      · have t2 : decide (xs = ys) = false := by simpa using k2
        have t2' : (xs.toList != ys.toList) = true := by rw [bne, str_no k2]; rfl
        have t2'' : ¬ xs.toList = ys.toList := by simpa using str_no k2
        have HM := Lib.hid (HE.out.trans (no2 t2))
        clear HE k2 t1 t2
        subst k1
        go_enter Tryz.func49, Tryz.ntmps49
        go_wp2
        go_ret
        exact ⟨ret_b HM.out.symm, by (repeat (with_reducible first | exact Below.refl _ _ | refine Below.setCell ?_ ?_ _ | refine Below.alloc ?_ ?_ _ | refine Below.drewN ?_ _ | refine Below.drew ?_)) <;> first | omega | (simp; omega) | (simp; done)⟩
    · have t1 : (xk == yk) = false := by simpa using k1
      have t1' : (xk != yk) = true := by simpa using k1
      clear k1
      have HM := Lib.hid (HE.out.trans (no1 t1))
      go_enter Tryz.func49, Tryz.ntmps49
      go_wp2
      go_ret
      exact ⟨ret_b HM.out.symm, by (repeat (with_reducible first | exact Below.refl _ _ | refine Below.setCell ?_ ?_ _ | refine Below.alloc ?_ ?_ _ | refine Below.drewN ?_ _ | refine Below.drew ?_)) <;> first | omega | (simp; omega) | (simp; done)⟩
set_option maxRecDepth 100000 in
set_option maxHeartbeats 4000000 in
theorem rsameTy_any : ∀ (N : Nat) (x y : STy) (us vs : List Value) (w : World), x.size ≤ N → x.size ≤ 1048576 → Rds w w.heap.size us x.d → Rds w w.heap.size vs y.d →
    Calls Tryz.prog 152 #[.agg us.toArray, .agg vs.toArray] w fun e w' => e = .returned (.bool (x.same y)) ∧ Below w.heap.size w w' := by
  intro N
  induction N with
  | zero => intro x y us vs w h; have := x.size_pos; omega
  | succ N ih =>
    intro x y us vs w hN hs hus hvs
    have IH := Lib.hid ih
    clear ih
    obtain ⟨v6, rfl, h6, -⟩ := STy.cells hus
    obtain ⟨u6, rfl, g6, -⟩ := STy.cells hvs
    have HE := Lib.hid (STy.same_eq x y)
    have hsz := x.size_eq
    have hlen := STy.sizes_len x.l
    have H6 := Lib.hid h6
    have G6 := Lib.hid g6
    obtain ⟨a, c, rfl⟩ := h6.slice_inv
    obtain ⟨a', c', rfl⟩ := g6.slice_inv
    have hN2 : STy.sizes x.l ≤ N ∧ STy.sizes x.l ≤ 1048576 := by omega
    have hl0 : x.l.length ≤ 1048576 := by omega
    obtain ⟨S, hS⟩ : ∃ B, x.same y = B := ⟨_, rfl⟩
    rw [hS] at HE
    rw [hS]
    obtain ⟨xl, hxl⟩ : ∃ z, x.l = z := ⟨_, rfl⟩
    obtain ⟨yl, hyl⟩ : ∃ z, y.l = z := ⟨_, rfl⟩
    rw [hxl, hyl] at HE
    rw [hxl] at H6 hN2 hl0 ⊢
    rw [hyl] at G6 ⊢
    obtain ⟨xk, hxk⟩ : ∃ z, x.kind = z := ⟨_, rfl⟩
    obtain ⟨yk, hyk⟩ : ∃ z, y.kind = z := ⟨_, rfl⟩
    obtain ⟨xs, hxs⟩ : ∃ z, x.s = z := ⟨_, rfl⟩
    obtain ⟨ys, hys⟩ : ∃ z, y.s = z := ⟨_, rfl⟩
    obtain ⟨xn, hxn⟩ : ∃ z, x.m = z := ⟨_, rfl⟩
    obtain ⟨yn, hyn⟩ : ∃ z, y.m = z := ⟨_, rfl⟩
    rw [hxk, hyk, hxs, hys, hxn, hyn] at HE
    rw [hxk, hyk, hxs, hys, hxn, hyn]
    clear hS hxl hyl hxk hyk hxs hys hxn hyn hus hvs h6 g6 hsz hlen hN hs
    by_cases k1 : xk = yk
    · have t1 : (xk == yk) = true := by simp [k1]
      by_cases k2 : xs = ys
      · have t2 : decide (xs = ys) = true := by simp [k2]
        by_cases k3 : xn = yn
        · have t3 : (xn == yn) = true := by simp [k3]
          have HM := Lib.hid (HE.out.trans (yes3 t1 t2 t3))
          clear HE t1 t2 t3
          subst k1 k2 k3
          by_cases k4 : xl.length = yl.length
          · have t4 : ((xl.length : Int) != (yl.length : Int)) = false := by simp [k4]
            have HL6 := Lib.hid k4
            clear k4
            go_enter Tryz.func152, Tryz.ntmps152
            go_wp2
            obtain ⟨bx, hbx⟩ : ∃ b : Array Value, #[.int .u8 xk, .string xs, .int .u8 xn, .int .i64 x.at_, .int .i64 x.line, .int .i64 x.col, .slice a xl.length c] = b := ⟨_, rfl⟩
            obtain ⟨yb, hby⟩ : ∃ b : Array Value, #[.int .u8 xk, .string xs, .int .u8 xn, .int .i64 y.at_, .int .i64 y.line, .int .i64 y.col, .slice a' yl.length c'] = b := ⟨_, rfl⟩
            have b6 : bx[6]? = some (.slice a xl.length c) := by rw [← hbx]; rfl
            have e6 : yb[6]? = some (.slice a' yl.length c') := by rw [← hby]; rfl
            have HB0 := Lib.hid (TwoB.mk' w bx yb 59)
            obtain ⟨W0, hW0⟩ : ∃ W, (w.alloc (.cells bx 59)).alloc (.cells yb 59) = W := ⟨_, rfl⟩
            rw [hW0] at HB0
            rw [hbx, hby, hW0]
            clear hbx hby hW0
            go_loopw [5] (fun u wr => ∃ k : Nat, k ≤ xl.length ∧ u = .int .i64 k ∧ Hid (eqL STy.same xl yl = eqL STy.same (xl.drop k) (yl.drop k)) ∧ Hid (TwoB w wr bx yb 59)) (fun u _ => xl.length - (intOf u).toNat)
            case atStart => exact ⟨0, Nat.zero_le _, rfl, rfl, HB0⟩
            case round =>
              obtain ⟨wo, rfl⟩ : ∃ z, z = wr := ⟨_, rfl⟩
              obtain ⟨k, hk, rfl, HK, HB⟩ := hrel
              have hbel := HB.out.bel
              have hszo := hbel.size
              have x6 := (HB.out.x.cell 6).trans b6
              have y6 := (HB.out.y.cell 6).trans e6
              by_cases hltx : k < xl.length
              · have hlty : k < yl.length := by have := HL6.out; omega
                obtain ⟨blx, offx, cpx, usx, hvx, hbx, hcx, hcellx, hux⟩ := H6.out.elem STy.d_len rfl k hltx (by omega)
                injection hvx with hax hnx hcapx
                subst hax hcapx
                obtain ⟨bly, offy, cpy, usy, hvy, hby, hcy, hcelly, huy⟩ := G6.out.elem STy.d_len rfl k hlty (by omega)
                injection hvy with hay hny hcapy
                subst hay hcapy
                have HC := Lib.hid (fun (W : World) (hW : Below w.heap.size w W) => IH.out xl[k] yl[k] usx usy W (by have := STy.sizes_get xl k hltx; omega) (by have := STy.sizes_get xl k hltx; omega) ((hux.keep hW).mono hW.size) ((huy.keep hW).mono hW.size))
                obtain ⟨q, hq⟩ : ∃ b, STy.same xl[k] yl[k] = b := ⟨_, rfl⟩
                rw [hq] at HC
                obtain ⟨v6x, rfl, g6x, -⟩ := STy.cells hux
                obtain ⟨a6x, d6x, rfl⟩ := g6x.slice_inv
                obtain ⟨v6y, rfl, g6y, -⟩ := STy.cells huy
                obtain ⟨a6y, d6y, rfl⟩ := g6y.slice_inv
                have cx0 := (hbel.cell (p := ⟨blx, offx + k * 7, none⟩) hbx).trans (hcellx 0 _ rfl)
                have cx1 := (hbel.cell (p := ⟨blx, offx + k * 7 + 1, none⟩) hbx).trans (hcellx 1 _ rfl)
                have cx2 := (hbel.cell (p := ⟨blx, offx + k * 7 + 2, none⟩) hbx).trans (hcellx 2 _ rfl)
                have cx3 := (hbel.cell (p := ⟨blx, offx + k * 7 + 3, none⟩) hbx).trans (hcellx 3 _ rfl)
                have cx4 := (hbel.cell (p := ⟨blx, offx + k * 7 + 4, none⟩) hbx).trans (hcellx 4 _ rfl)
                have cx5 := (hbel.cell (p := ⟨blx, offx + k * 7 + 5, none⟩) hbx).trans (hcellx 5 _ rfl)
                have cx6 := (hbel.cell (p := ⟨blx, offx + k * 7 + 6, none⟩) hbx).trans (hcellx 6 _ rfl)
                have cy0 := (hbel.cell (p := ⟨bly, offy + k * 7, none⟩) hby).trans (hcelly 0 _ rfl)
                have cy1 := (hbel.cell (p := ⟨bly, offy + k * 7 + 1, none⟩) hby).trans (hcelly 1 _ rfl)
                have cy2 := (hbel.cell (p := ⟨bly, offy + k * 7 + 2, none⟩) hby).trans (hcelly 2 _ rfl)
                have cy3 := (hbel.cell (p := ⟨bly, offy + k * 7 + 3, none⟩) hby).trans (hcelly 3 _ rfl)
                have cy4 := (hbel.cell (p := ⟨bly, offy + k * 7 + 4, none⟩) hby).trans (hcelly 4 _ rfl)
                have cy5 := (hbel.cell (p := ⟨bly, offy + k * 7 + 5, none⟩) hby).trans (hcelly 5 _ rfl)
                have cy6 := (hbel.cell (p := ⟨bly, offy + k * 7 + 6, none⟩) hby).trans (hcelly 6 _ rfl)
                have e1 : decide ((k : Int) < (xl.length : Int)) = true := decide_eq_true (by omega)
                have i0 : (0 : Int) ≤ (k : Int) := by omega
                have i1 : (k : Int) < (xl.length : Int) := by omega
                have i2 : (k : Int) < (yl.length : Int) := by omega
                have HS := Lib.hid (eqL_drop STy.same xl yl k hltx hlty)
                clear hcellx hcelly hux huy g6x g6y
                go_upto_region 6 with fail
                rw [hq] at HS
                refine wp_region_segs [10] (by kernel_rfl) (by kernel_rfl) ?_
                rw [wpSegs]
                simp only [List.take_succ_cons, List.take_zero, List.drop_succ_cons, List.drop_zero]
                repeat (go_big_quiet_step (fail))
                refine wpQuiet_nil ?_
                rintro _ ⟨nq, rfl⟩
                go_wp2_with (go_at_call 152; refine (HC.out _ (Below.drewN hbel _)).mono ?_; rintro e w2 ⟨rfl, hb2⟩)
                have HI2 := Lib.hid (HB.out.below (Below.trans (Below.drewN (Below.refl _ _) _) hb2))
                clear hb2 cx0 cy0 cx1 cy1 cx2 cy2 cx3 cy3 cx4 cy4 cx5 cy5 cx6 cy6
                cases q
                · have := 0
                  clear this
                  show wpSegs _ _ _ _ _ _ _
                  rw [wpSegs]
                  repeat (go_big_quiet_step (fail))
                  refine wpQuiet_nil ?_
                  rintro _ ⟨nq2, rfl⟩
                  go_wp2
                  go_ret
                  exact ⟨ret_b (by rw [HM.out, HK.out, HS.out]; rfl), Below.drewN HI2.out.bel _⟩
                · have HK2 := Lib.hid (show eqL STy.same xl yl = eqL STy.same (xl.drop (k + 1)) (yl.drop (k + 1)) by rw [HK.out, HS.out]; rfl)
                  show wpSegs _ _ _ _ _ _ _
                  rw [wpSegs]
                  repeat (go_big_quiet_step (fail))
                  refine wpQuiet_nil ?_
                  rintro _ ⟨nq2, rfl⟩
                  go_wp2
                  go_roundw
                  case rel => exact ⟨k + 1, hltx, by go_num, HK2, Lib.hid (HI2.out.below (Below.drewN (Below.refl _ _) _))⟩
                  case measure => simp [intOf]; omega
              · have e1 : decide ((k : Int) < (xl.length : Int)) = false := decide_eq_false (by omega)
                have HKE := Lib.hid (HK.out.trans (eqL_end STy.same xl yl k (by omega) (by have := HL6.out; omega)))
                have e1' : decide (k < xl.length) = false := decide_eq_false (by omega)
                clear hk hltx
                go_wp2
                go_ret
                exact ⟨ret_b (by rw [HM.out, HKE.out]), hbel⟩
          · have t4 : ((xl.length : Int) != (yl.length : Int)) = true := by first | (simp; done) | (simp; omega)
            have HE := Lib.hid (HM.out.trans (show _ = false by simp [eqL_len STy.same xl yl k4]))
            clear HM
            have HM := Lib.hid (HE.out.trans (rfl))
            go_enter Tryz.func152, Tryz.ntmps152
            go_wp2
            go_ret
            exact ⟨ret_b HM.out.symm, by (repeat (with_reducible first | exact Below.refl _ _ | refine Below.setCell ?_ ?_ _ | refine Below.alloc ?_ ?_ _ | refine Below.drewN ?_ _ | refine Below.drew ?_)) <;> first | omega | (simp; omega) | (simp; done)⟩
        · have t3 : (xn == yn) = false := by simpa using k3
          have t3' : (xn != yn) = true := by simpa using k3
          have HM := Lib.hid (HE.out.trans (no3 t3))
          clear HE t1 t2 t3
          subst k1 k2
          go_enter Tryz.func152, Tryz.ntmps152
          go_wp2
          go_ret
          exact ⟨ret_b HM.out.symm, by (repeat (with_reducible first | exact Below.refl _ _ | refine Below.setCell ?_ ?_ _ | refine Below.alloc ?_ ?_ _ | refine Below.drewN ?_ _ | refine Below.drew ?_)) <;> first | omega | (simp; omega) | (simp; done)⟩
      · have t2 : decide (xs = ys) = false := by simpa using k2
        have t2' : (xs.toList != ys.toList) = true := by rw [bne, str_no k2]; rfl
        have t2'' : ¬ xs.toList = ys.toList := by simpa using str_no k2
        have HM := Lib.hid (HE.out.trans (no2 t2))
        clear HE k2 t1 t2
        subst k1
        go_enter Tryz.func152, Tryz.ntmps152
        go_wp2
        go_ret
        exact ⟨ret_b HM.out.symm, by (repeat (with_reducible first | exact Below.refl _ _ | refine Below.setCell ?_ ?_ _ | refine Below.alloc ?_ ?_ _ | refine Below.drewN ?_ _ | refine Below.drew ?_)) <;> first | omega | (simp; omega) | (simp; done)⟩
    · have t1 : (xk == yk) = false := by simpa using k1
      have t1' : (xk != yk) = true := by simpa using k1
      clear k1
      have HM := Lib.hid (HE.out.trans (no1 t1))
      go_enter Tryz.func152, Tryz.ntmps152
      go_wp2
      go_ret
      exact ⟨ret_b HM.out.symm, by (repeat (with_reducible first | exact Below.refl _ _ | refine Below.setCell ?_ ?_ _ | refine Below.alloc ?_ ?_ _ | refine Below.drewN ?_ _ | refine Below.drew ?_)) <;> first | omega | (simp; omega) | (simp; done)⟩
set_option maxRecDepth 100000 in
set_option maxHeartbeats 4000000 in
theorem rsameExpr_any : ∀ (N : Nat) (x y : SExpr) (us vs : List Value) (w : World), x.size ≤ N → x.size ≤ 1048576 → Rds w w.heap.size us x.d → Rds w w.heap.size vs y.d →
    Calls Tryz.prog 17 #[.agg us.toArray, .agg vs.toArray] w fun e w' => e = .returned (.bool (x.same y)) ∧ Below w.heap.size w w' := by
  intro N
  induction N with
  | zero => intro x y us vs w h; have := x.size_pos; omega
  | succ N ih =>
    intro x y us vs w hN hs hus hvs
    have IH := Lib.hid ih
    clear ih
    obtain ⟨v6, v7, rfl, h6, h7, -⟩ := SExpr.cells hus
    obtain ⟨u6, u7, rfl, g6, g7, -⟩ := SExpr.cells hvs
    have hlen7 := SArm.sizes_len x.arms
    have HE := Lib.hid (SExpr.same_eq x y)
    have hsz := x.size_eq
    have hlen := SExpr.sizes_len x.l
    have H6 := Lib.hid h6
    have G6 := Lib.hid g6
    obtain ⟨a, c, rfl⟩ := h6.slice_inv
    obtain ⟨a', c', rfl⟩ := g6.slice_inv
    have H7 := Lib.hid h7
    have G7 := Lib.hid g7
    obtain ⟨a7, c7, rfl⟩ := h7.slice_inv
    obtain ⟨a7', c7', rfl⟩ := g7.slice_inv
    have hN2 : SExpr.sizes x.l ≤ N ∧ SExpr.sizes x.l ≤ 1048576 ∧ SArm.sizes x.arms ≤ N ∧ SArm.sizes x.arms ≤ 1048576 := by omega
    have hl0 : x.l.length ≤ 1048576 := by omega
    have hl7 : x.arms.length ≤ 1048576 := by omega
    obtain ⟨S, hS⟩ : ∃ B, x.same y = B := ⟨_, rfl⟩
    rw [hS] at HE
    rw [hS]
    obtain ⟨xl, hxl⟩ : ∃ z, x.l = z := ⟨_, rfl⟩
    obtain ⟨yl, hyl⟩ : ∃ z, y.l = z := ⟨_, rfl⟩
    rw [hxl, hyl] at HE
    rw [hxl] at H6 hN2 hl0 ⊢
    rw [hyl] at G6 ⊢
    obtain ⟨xk, hxk⟩ : ∃ z, x.kind = z := ⟨_, rfl⟩
    obtain ⟨yk, hyk⟩ : ∃ z, y.kind = z := ⟨_, rfl⟩
    obtain ⟨xs, hxs⟩ : ∃ z, x.s = z := ⟨_, rfl⟩
    obtain ⟨ys, hys⟩ : ∃ z, y.s = z := ⟨_, rfl⟩
    obtain ⟨xn, hxn⟩ : ∃ z, x.n = z := ⟨_, rfl⟩
    obtain ⟨yn, hyn⟩ : ∃ z, y.n = z := ⟨_, rfl⟩
    rw [hxk, hyk, hxs, hys, hxn, hyn] at HE
    rw [hxk, hyk, hxs, hys, hxn, hyn]
    obtain ⟨xa, hxa⟩ : ∃ z, x.arms = z := ⟨_, rfl⟩
    obtain ⟨ya, hya⟩ : ∃ z, y.arms = z := ⟨_, rfl⟩
    rw [hxa, hya] at HE
    rw [hxa] at H7 hN2 hl7 ⊢
    rw [hya] at G7 ⊢
    clear hS hxl hyl hxk hyk hxs hys hxn hyn hus hvs h6 g6 hsz hlen hN hs hxa hya h7 g7 hlen7
    by_cases k1 : xk = yk
    · have t1 : (xk == yk) = true := by simp [k1]
      by_cases k2 : xs = ys
      · have t2 : decide (xs = ys) = true := by simp [k2]
        by_cases k3 : xn = yn
        · have t3 : (xn == yn) = true := by simp [k3]
          have HM := Lib.hid (HE.out.trans (yes3 t1 t2 t3))
          clear HE t1 t2 t3
          subst k1 k2 k3
          by_cases k4 : xl.length = yl.length
          · have t4 : ((xl.length : Int) != (yl.length : Int)) = false := by simp [k4]
            have HL6 := Lib.hid k4
            clear k4
            by_cases k5 : xa.length = ya.length
            · have t5 : ((xa.length : Int) != (ya.length : Int)) = false := by simp [k5]
              have HL7 := Lib.hid k5
              clear k5
              go_enter Tryz.func17, Tryz.ntmps17
              go_wp2
              obtain ⟨bx, hbx⟩ : ∃ b : Array Value, #[.int .u8 xk, .string xs, .int .i64 xn, .int .i64 x.at_, .int .i64 x.line, .int .i64 x.col, .slice a xl.length c, .slice a7 xa.length c7] = b := ⟨_, rfl⟩
              obtain ⟨yb, hby⟩ : ∃ b : Array Value, #[.int .u8 xk, .string xs, .int .i64 xn, .int .i64 y.at_, .int .i64 y.line, .int .i64 y.col, .slice a' yl.length c', .slice a7' ya.length c7'] = b := ⟨_, rfl⟩
              have b6 : bx[6]? = some (.slice a xl.length c) := by rw [← hbx]; rfl
              have e6 : yb[6]? = some (.slice a' yl.length c') := by rw [← hby]; rfl
              have b7 : bx[7]? = some (.slice a7 xa.length c7) := by rw [← hbx]; rfl
              have e7 : yb[7]? = some (.slice a7' ya.length c7') := by rw [← hby]; rfl
              have HB0 := Lib.hid (TwoB.mk' w bx yb 28)
              obtain ⟨W0, hW0⟩ : ∃ W, (w.alloc (.cells bx 28)).alloc (.cells yb 28) = W := ⟨_, rfl⟩
              rw [hW0] at HB0
              rw [hbx, hby, hW0]
              clear hbx hby hW0
              go_loopw [5] (fun u wr => ∃ k : Nat, k ≤ xl.length ∧ u = .int .i64 k ∧ Hid (eqL SExpr.same xl yl = eqL SExpr.same (xl.drop k) (yl.drop k)) ∧ Hid (TwoB w wr bx yb 28)) (fun u _ => xl.length - (intOf u).toNat)
              case atStart => exact ⟨0, Nat.zero_le _, rfl, rfl, HB0⟩
              case round =>
                obtain ⟨wo, rfl⟩ : ∃ z, z = wr := ⟨_, rfl⟩
                obtain ⟨k, hk, rfl, HK, HB⟩ := hrel
                have hbel := HB.out.bel
                have hszo := hbel.size
                have x6 := (HB.out.x.cell 6).trans b6
                have y6 := (HB.out.y.cell 6).trans e6
                by_cases hltx : k < xl.length
                · have hlty : k < yl.length := by have := HL6.out; omega
                  obtain ⟨blx, offx, cpx, usx, hvx, hbx, hcx, hcellx, hux⟩ := H6.out.elem SExpr.d_len rfl k hltx (by omega)
                  injection hvx with hax hnx hcapx
                  subst hax hcapx
                  obtain ⟨bly, offy, cpy, usy, hvy, hby, hcy, hcelly, huy⟩ := G6.out.elem SExpr.d_len rfl k hlty (by omega)
                  injection hvy with hay hny hcapy
                  subst hay hcapy
                  have HC := Lib.hid (fun (W : World) (hW : Below w.heap.size w W) => IH.out xl[k] yl[k] usx usy W (by have := SExpr.sizes_get xl k hltx; omega) (by have := SExpr.sizes_get xl k hltx; omega) ((hux.keep hW).mono hW.size) ((huy.keep hW).mono hW.size))
                  obtain ⟨q, hq⟩ : ∃ b, SExpr.same xl[k] yl[k] = b := ⟨_, rfl⟩
                  rw [hq] at HC
                  obtain ⟨v6x, v7x, rfl, g6x, g7x, -⟩ := SExpr.cells hux
                  obtain ⟨a6x, d6x, rfl⟩ := g6x.slice_inv
                  obtain ⟨a7x, d7x, rfl⟩ := g7x.slice_inv
                  obtain ⟨v6y, v7y, rfl, g6y, g7y, -⟩ := SExpr.cells huy
                  obtain ⟨a6y, d6y, rfl⟩ := g6y.slice_inv
                  obtain ⟨a7y, d7y, rfl⟩ := g7y.slice_inv
                  have cx0 := (hbel.cell (p := ⟨blx, offx + k * 8, none⟩) hbx).trans (hcellx 0 _ rfl)
                  have cx1 := (hbel.cell (p := ⟨blx, offx + k * 8 + 1, none⟩) hbx).trans (hcellx 1 _ rfl)
                  have cx2 := (hbel.cell (p := ⟨blx, offx + k * 8 + 2, none⟩) hbx).trans (hcellx 2 _ rfl)
                  have cx3 := (hbel.cell (p := ⟨blx, offx + k * 8 + 3, none⟩) hbx).trans (hcellx 3 _ rfl)
                  have cx4 := (hbel.cell (p := ⟨blx, offx + k * 8 + 4, none⟩) hbx).trans (hcellx 4 _ rfl)
                  have cx5 := (hbel.cell (p := ⟨blx, offx + k * 8 + 5, none⟩) hbx).trans (hcellx 5 _ rfl)
                  have cx6 := (hbel.cell (p := ⟨blx, offx + k * 8 + 6, none⟩) hbx).trans (hcellx 6 _ rfl)
                  have cx7 := (hbel.cell (p := ⟨blx, offx + k * 8 + 7, none⟩) hbx).trans (hcellx 7 _ rfl)
                  have cy0 := (hbel.cell (p := ⟨bly, offy + k * 8, none⟩) hby).trans (hcelly 0 _ rfl)
                  have cy1 := (hbel.cell (p := ⟨bly, offy + k * 8 + 1, none⟩) hby).trans (hcelly 1 _ rfl)
                  have cy2 := (hbel.cell (p := ⟨bly, offy + k * 8 + 2, none⟩) hby).trans (hcelly 2 _ rfl)
                  have cy3 := (hbel.cell (p := ⟨bly, offy + k * 8 + 3, none⟩) hby).trans (hcelly 3 _ rfl)
                  have cy4 := (hbel.cell (p := ⟨bly, offy + k * 8 + 4, none⟩) hby).trans (hcelly 4 _ rfl)
                  have cy5 := (hbel.cell (p := ⟨bly, offy + k * 8 + 5, none⟩) hby).trans (hcelly 5 _ rfl)
                  have cy6 := (hbel.cell (p := ⟨bly, offy + k * 8 + 6, none⟩) hby).trans (hcelly 6 _ rfl)
                  have cy7 := (hbel.cell (p := ⟨bly, offy + k * 8 + 7, none⟩) hby).trans (hcelly 7 _ rfl)
                  have e1 : decide ((k : Int) < (xl.length : Int)) = true := decide_eq_true (by omega)
                  have i0 : (0 : Int) ≤ (k : Int) := by omega
                  have i1 : (k : Int) < (xl.length : Int) := by omega
                  have i2 : (k : Int) < (yl.length : Int) := by omega
                  have HS := Lib.hid (eqL_drop SExpr.same xl yl k hltx hlty)
                  clear hcellx hcelly hux huy g6x g7x g6y g7y
                  go_upto_region 6 with fail
                  rw [hq] at HS
                  refine wp_region_segs [10] (by kernel_rfl) (by kernel_rfl) ?_
                  rw [wpSegs]
                  simp only [List.take_succ_cons, List.take_zero, List.drop_succ_cons, List.drop_zero]
                  repeat (go_big_quiet_step (fail))
                  refine wpQuiet_nil ?_
                  rintro _ ⟨nq, rfl⟩
                  go_wp2_with (go_at_call 17; refine (HC.out _ (Below.drewN hbel _)).mono ?_; rintro e w2 ⟨rfl, hb2⟩)
                  have HI2 := Lib.hid (HB.out.below (Below.trans (Below.drewN (Below.refl _ _) _) hb2))
                  clear hb2 cx0 cy0 cx1 cy1 cx2 cy2 cx3 cy3 cx4 cy4 cx5 cy5 cx6 cy6 cx7 cy7
                  cases q
                  · have := 0
                    clear this
                    show wpSegs _ _ _ _ _ _ _
                    rw [wpSegs]
                    repeat (go_big_quiet_step (fail))
                    refine wpQuiet_nil ?_
                    rintro _ ⟨nq2, rfl⟩
                    go_wp2
                    go_ret
                    exact ⟨ret_b (by rw [HM.out, HK.out, HS.out]; rfl), Below.drewN HI2.out.bel _⟩
                  · have HK2 := Lib.hid (show eqL SExpr.same xl yl = eqL SExpr.same (xl.drop (k + 1)) (yl.drop (k + 1)) by rw [HK.out, HS.out]; rfl)
                    show wpSegs _ _ _ _ _ _ _
                    rw [wpSegs]
                    repeat (go_big_quiet_step (fail))
                    refine wpQuiet_nil ?_
                    rintro _ ⟨nq2, rfl⟩
                    go_wp2
                    go_roundw
                    case rel => exact ⟨k + 1, hltx, by go_num, HK2, Lib.hid (HI2.out.below (Below.drewN (Below.refl _ _) _))⟩
                    case measure => simp [intOf]; omega
                · have e1 : decide ((k : Int) < (xl.length : Int)) = false := decide_eq_false (by omega)
                  have HKE := Lib.hid (HK.out.trans (eqL_end SExpr.same xl yl k (by omega) (by have := HL6.out; omega)))
                  have e1' : decide (k < xl.length) = false := decide_eq_false (by omega)
                  clear hk hltx
                  have HB0 := HB
                  have HM2 := Lib.hid (HM.out.trans (show _ = eqL SArm.same xa ya by rw [HKE.out]; rfl))
                  go_wp2
                  clear x6 y6 hbel hszo HK HKE HB HM b6 e6 e1
                  clear e1'
                  have := 0
                  clear this
                  go_loopw [6] (fun u wr => ∃ k : Nat, k ≤ xa.length ∧ u = .int .i64 k ∧ Hid (eqL SArm.same xa ya = eqL SArm.same (xa.drop k) (ya.drop k)) ∧ Hid (TwoB w wr bx yb 28)) (fun u _ => xa.length - (intOf u).toNat)
                  case atStart => exact ⟨0, Nat.zero_le _, rfl, rfl, HB0⟩
                  case round =>
                    obtain ⟨wo, rfl⟩ : ∃ z, z = wr := ⟨_, rfl⟩
                    obtain ⟨k, hk, rfl, HK, HB⟩ := hrel
                    have hbel := HB.out.bel
                    have hszo := hbel.size
                    have x6 := (HB.out.x.cell 7).trans b7
                    have y6 := (HB.out.y.cell 7).trans e7
                    by_cases hltx : k < xa.length
                    · have hlty : k < ya.length := by have := HL7.out; omega
                      obtain ⟨blx, offx, cpx, usx, hvx, hbx, hcx, hcellx, hux⟩ := H7.out.elem SArm.d_len rfl k hltx (by omega)
                      injection hvx with hax hnx hcapx
                      subst hax hcapx
                      obtain ⟨bly, offy, cpy, usy, hvy, hby, hcy, hcelly, huy⟩ := G7.out.elem SArm.d_len rfl k hlty (by omega)
                      injection hvy with hay hny hcapy
                      subst hay hcapy
                      have hpe : xa[k].p.size ≤ 1048576 ∧ xa[k].e.size ≤ N ∧ xa[k].e.size ≤ 1048576 := by have := SArm.sizes_get xa k hltx; have := SArm.size_eq xa[k]; omega
                      have HUX := Lib.hid hux
                      have HUY := Lib.hid huy
                      obtain ⟨upx, uex, rfl, hpx, hex⟩ := SArm.cells hux
                      have HPX := Lib.hid hpx
                      have HEX := Lib.hid hex
                      obtain ⟨v6px, rfl, g6px, -⟩ := SPat.cells hpx
                      obtain ⟨a6px, d6px, rfl⟩ := g6px.slice_inv
                      obtain ⟨v6ex, v7ex, rfl, g6ex, g7ex, -⟩ := SExpr.cells hex
                      obtain ⟨a6ex, d6ex, rfl⟩ := g6ex.slice_inv
                      obtain ⟨a7ex, d7ex, rfl⟩ := g7ex.slice_inv
                      obtain ⟨upy, uey, rfl, hpy, hey⟩ := SArm.cells huy
                      have HPY := Lib.hid hpy
                      have HEY := Lib.hid hey
                      obtain ⟨v6py, rfl, g6py, -⟩ := SPat.cells hpy
                      obtain ⟨a6py, d6py, rfl⟩ := g6py.slice_inv
                      obtain ⟨v6ey, v7ey, rfl, g6ey, g7ey, -⟩ := SExpr.cells hey
                      obtain ⟨a6ey, d6ey, rfl⟩ := g6ey.slice_inv
                      obtain ⟨a7ey, d7ey, rfl⟩ := g7ey.slice_inv
                      have cx0 := (hbel.cell (p := ⟨blx, offx + k * 15, none⟩) hbx).trans (hcellx 0 _ rfl)
                      have cx1 := (hbel.cell (p := ⟨blx, offx + k * 15 + 1, none⟩) hbx).trans (hcellx 1 _ rfl)
                      have cx2 := (hbel.cell (p := ⟨blx, offx + k * 15 + 2, none⟩) hbx).trans (hcellx 2 _ rfl)
                      have cx3 := (hbel.cell (p := ⟨blx, offx + k * 15 + 3, none⟩) hbx).trans (hcellx 3 _ rfl)
                      have cx4 := (hbel.cell (p := ⟨blx, offx + k * 15 + 4, none⟩) hbx).trans (hcellx 4 _ rfl)
                      have cx5 := (hbel.cell (p := ⟨blx, offx + k * 15 + 5, none⟩) hbx).trans (hcellx 5 _ rfl)
                      have cx6 := (hbel.cell (p := ⟨blx, offx + k * 15 + 6, none⟩) hbx).trans (hcellx 6 _ rfl)
                      have cx7 := (hbel.cell (p := ⟨blx, offx + k * 15 + 7, none⟩) hbx).trans (hcellx 7 _ rfl)
                      have cx8 := (hbel.cell (p := ⟨blx, offx + k * 15 + 8, none⟩) hbx).trans (hcellx 8 _ rfl)
                      have cx9 := (hbel.cell (p := ⟨blx, offx + k * 15 + 9, none⟩) hbx).trans (hcellx 9 _ rfl)
                      have cx10 := (hbel.cell (p := ⟨blx, offx + k * 15 + 10, none⟩) hbx).trans (hcellx 10 _ rfl)
                      have cx11 := (hbel.cell (p := ⟨blx, offx + k * 15 + 11, none⟩) hbx).trans (hcellx 11 _ rfl)
                      have cx12 := (hbel.cell (p := ⟨blx, offx + k * 15 + 12, none⟩) hbx).trans (hcellx 12 _ rfl)
                      have cx13 := (hbel.cell (p := ⟨blx, offx + k * 15 + 13, none⟩) hbx).trans (hcellx 13 _ rfl)
                      have cx14 := (hbel.cell (p := ⟨blx, offx + k * 15 + 14, none⟩) hbx).trans (hcellx 14 _ rfl)
                      have cy0 := (hbel.cell (p := ⟨bly, offy + k * 15, none⟩) hby).trans (hcelly 0 _ rfl)
                      have cy1 := (hbel.cell (p := ⟨bly, offy + k * 15 + 1, none⟩) hby).trans (hcelly 1 _ rfl)
                      have cy2 := (hbel.cell (p := ⟨bly, offy + k * 15 + 2, none⟩) hby).trans (hcelly 2 _ rfl)
                      have cy3 := (hbel.cell (p := ⟨bly, offy + k * 15 + 3, none⟩) hby).trans (hcelly 3 _ rfl)
                      have cy4 := (hbel.cell (p := ⟨bly, offy + k * 15 + 4, none⟩) hby).trans (hcelly 4 _ rfl)
                      have cy5 := (hbel.cell (p := ⟨bly, offy + k * 15 + 5, none⟩) hby).trans (hcelly 5 _ rfl)
                      have cy6 := (hbel.cell (p := ⟨bly, offy + k * 15 + 6, none⟩) hby).trans (hcelly 6 _ rfl)
                      have cy7 := (hbel.cell (p := ⟨bly, offy + k * 15 + 7, none⟩) hby).trans (hcelly 7 _ rfl)
                      have cy8 := (hbel.cell (p := ⟨bly, offy + k * 15 + 8, none⟩) hby).trans (hcelly 8 _ rfl)
                      have cy9 := (hbel.cell (p := ⟨bly, offy + k * 15 + 9, none⟩) hby).trans (hcelly 9 _ rfl)
                      have cy10 := (hbel.cell (p := ⟨bly, offy + k * 15 + 10, none⟩) hby).trans (hcelly 10 _ rfl)
                      have cy11 := (hbel.cell (p := ⟨bly, offy + k * 15 + 11, none⟩) hby).trans (hcelly 11 _ rfl)
                      have cy12 := (hbel.cell (p := ⟨bly, offy + k * 15 + 12, none⟩) hby).trans (hcelly 12 _ rfl)
                      have cy13 := (hbel.cell (p := ⟨bly, offy + k * 15 + 13, none⟩) hby).trans (hcelly 13 _ rfl)
                      have cy14 := (hbel.cell (p := ⟨bly, offy + k * 15 + 14, none⟩) hby).trans (hcelly 14 _ rfl)
                      have e1 : decide ((k : Int) < (xa.length : Int)) = true := decide_eq_true (by omega)
                      have i0 : (0 : Int) ≤ (k : Int) := by omega
                      have i1 : (k : Int) < (xa.length : Int) := by omega
                      have i2 : (k : Int) < (ya.length : Int) := by omega
                      have HS := Lib.hid (eqL_drop SArm.same xa ya k hltx hlty)
                      clear hcellx hcelly hux huy g6px g6ex g7ex hpx hex g6py g6ey g7ey hpy hey
                      go_upto_region 11 with fail
                      have hsame := SArm.same_eq xa[k] ya[k]
                      have HP := Lib.hid (fun (W : World) (hW : Below w.heap.size w W) => rsamePat_any _ xa[k].p ya[k].p _ _ W (Nat.le_refl _) hpe.1 ((HPX.out.keep hW).mono hW.size) ((HPY.out.keep hW).mono hW.size))
                      have HC := Lib.hid (fun (W : World) (hW : Below w.heap.size w W) => IH.out xa[k].e ya[k].e _ _ W hpe.2.1 hpe.2.2 ((HEX.out.keep hW).mono hW.size) ((HEY.out.keep hW).mono hW.size))
                      obtain ⟨q1, hq1⟩ : ∃ b, SPat.same xa[k].p ya[k].p = b := ⟨_, rfl⟩
                      obtain ⟨q2, hq2⟩ : ∃ b, SExpr.same xa[k].e ya[k].e = b := ⟨_, rfl⟩
                      rw [hq1] at HP
                      rw [hq2] at HC
                      rw [hsame, hq1, hq2] at HS
                      clear hsame hq1 hq2
                      refine wp_region_segs [12, 14] (by kernel_rfl) (by kernel_rfl) ?_
                      rw [wpSegs]
                      simp only [List.take_succ_cons, List.take_zero, List.drop_succ_cons, List.drop_zero]
                      repeat (go_big_quiet_step (fail))
                      refine wpQuiet_nil ?_
                      rintro _ ⟨nq, rfl⟩
                      go_wp2_with (go_at_call 49; refine (HP.out _ (Below.drewN hbel _)).mono ?_; rintro e w2 ⟨rfl, hb2⟩)
                      have hb3 : Below wo.heap.size wo w2 := (Below.drewN (Below.refl _ _) _).trans hb2
                      have HI2 := Lib.hid (HB.out.below hb3)
                      have hbel2 := HI2.out.bel
                      have x7 := (HI2.out.x.cell 7).trans b7
                      have y7 := (HI2.out.y.cell 7).trans e7
                      have zx0 := (hb3.cell (p := ⟨blx, offx + k * 15, none⟩) (Nat.lt_of_lt_of_le hbx hszo)).trans cx0
                      have zx1 := (hb3.cell (p := ⟨blx, offx + k * 15 + 1, none⟩) (Nat.lt_of_lt_of_le hbx hszo)).trans cx1
                      have zx2 := (hb3.cell (p := ⟨blx, offx + k * 15 + 2, none⟩) (Nat.lt_of_lt_of_le hbx hszo)).trans cx2
                      have zx3 := (hb3.cell (p := ⟨blx, offx + k * 15 + 3, none⟩) (Nat.lt_of_lt_of_le hbx hszo)).trans cx3
                      have zx4 := (hb3.cell (p := ⟨blx, offx + k * 15 + 4, none⟩) (Nat.lt_of_lt_of_le hbx hszo)).trans cx4
                      have zx5 := (hb3.cell (p := ⟨blx, offx + k * 15 + 5, none⟩) (Nat.lt_of_lt_of_le hbx hszo)).trans cx5
                      have zx6 := (hb3.cell (p := ⟨blx, offx + k * 15 + 6, none⟩) (Nat.lt_of_lt_of_le hbx hszo)).trans cx6
                      have zx7 := (hb3.cell (p := ⟨blx, offx + k * 15 + 7, none⟩) (Nat.lt_of_lt_of_le hbx hszo)).trans cx7
                      have zx8 := (hb3.cell (p := ⟨blx, offx + k * 15 + 8, none⟩) (Nat.lt_of_lt_of_le hbx hszo)).trans cx8
                      have zx9 := (hb3.cell (p := ⟨blx, offx + k * 15 + 9, none⟩) (Nat.lt_of_lt_of_le hbx hszo)).trans cx9
                      have zx10 := (hb3.cell (p := ⟨blx, offx + k * 15 + 10, none⟩) (Nat.lt_of_lt_of_le hbx hszo)).trans cx10
                      have zx11 := (hb3.cell (p := ⟨blx, offx + k * 15 + 11, none⟩) (Nat.lt_of_lt_of_le hbx hszo)).trans cx11
                      have zx12 := (hb3.cell (p := ⟨blx, offx + k * 15 + 12, none⟩) (Nat.lt_of_lt_of_le hbx hszo)).trans cx12
                      have zx13 := (hb3.cell (p := ⟨blx, offx + k * 15 + 13, none⟩) (Nat.lt_of_lt_of_le hbx hszo)).trans cx13
                      have zx14 := (hb3.cell (p := ⟨blx, offx + k * 15 + 14, none⟩) (Nat.lt_of_lt_of_le hbx hszo)).trans cx14
                      have zy0 := (hb3.cell (p := ⟨bly, offy + k * 15, none⟩) (Nat.lt_of_lt_of_le hby hszo)).trans cy0
                      have zy1 := (hb3.cell (p := ⟨bly, offy + k * 15 + 1, none⟩) (Nat.lt_of_lt_of_le hby hszo)).trans cy1
                      have zy2 := (hb3.cell (p := ⟨bly, offy + k * 15 + 2, none⟩) (Nat.lt_of_lt_of_le hby hszo)).trans cy2
                      have zy3 := (hb3.cell (p := ⟨bly, offy + k * 15 + 3, none⟩) (Nat.lt_of_lt_of_le hby hszo)).trans cy3
                      have zy4 := (hb3.cell (p := ⟨bly, offy + k * 15 + 4, none⟩) (Nat.lt_of_lt_of_le hby hszo)).trans cy4
                      have zy5 := (hb3.cell (p := ⟨bly, offy + k * 15 + 5, none⟩) (Nat.lt_of_lt_of_le hby hszo)).trans cy5
                      have zy6 := (hb3.cell (p := ⟨bly, offy + k * 15 + 6, none⟩) (Nat.lt_of_lt_of_le hby hszo)).trans cy6
                      have zy7 := (hb3.cell (p := ⟨bly, offy + k * 15 + 7, none⟩) (Nat.lt_of_lt_of_le hby hszo)).trans cy7
                      have zy8 := (hb3.cell (p := ⟨bly, offy + k * 15 + 8, none⟩) (Nat.lt_of_lt_of_le hby hszo)).trans cy8
                      have zy9 := (hb3.cell (p := ⟨bly, offy + k * 15 + 9, none⟩) (Nat.lt_of_lt_of_le hby hszo)).trans cy9
                      have zy10 := (hb3.cell (p := ⟨bly, offy + k * 15 + 10, none⟩) (Nat.lt_of_lt_of_le hby hszo)).trans cy10
                      have zy11 := (hb3.cell (p := ⟨bly, offy + k * 15 + 11, none⟩) (Nat.lt_of_lt_of_le hby hszo)).trans cy11
                      have zy12 := (hb3.cell (p := ⟨bly, offy + k * 15 + 12, none⟩) (Nat.lt_of_lt_of_le hby hszo)).trans cy12
                      have zy13 := (hb3.cell (p := ⟨bly, offy + k * 15 + 13, none⟩) (Nat.lt_of_lt_of_le hby hszo)).trans cy13
                      have zy14 := (hb3.cell (p := ⟨bly, offy + k * 15 + 14, none⟩) (Nat.lt_of_lt_of_le hby hszo)).trans cy14
                      clear hb2 hb3 x6 y6 cx0 cy0 cx1 cy1 cx2 cy2 cx3 cy3 cx4 cy4 cx5 cy5 cx6 cy6 cx7 cy7 cx8 cy8 cx9 cy9 cx10 cy10 cx11 cy11 cx12 cy12 cx13 cy13 cx14 cy14
                      cases q1
                      · have := 0
                        clear this
                        show wpSegs _ _ _ _ _ _ _
                        rw [wpSegs]
                        simp only [List.take_succ_cons, List.take_zero, List.drop_succ_cons, List.drop_zero]
                        repeat (go_big_quiet_step (fail))
                        refine wpQuiet_nil ?_
                        rintro _ ⟨nq2, rfl⟩
                        go_wp2
                        show wpSegs _ _ _ _ _ _ _
                        rw [wpSegs]
                        repeat (go_big_quiet_step (fail))
                        refine wpQuiet_nil ?_
                        rintro _ ⟨nq3, rfl⟩
                        go_wp2
                        go_ret
                        exact ⟨ret_b (by rw [HM2.out, HK.out, HS.out]; rfl), Below.drewN (Below.drewN hbel2 _) _⟩
                      · have := 0
                        clear this
                        show wpSegs _ _ _ _ _ _ _
                        rw [wpSegs]
                        simp only [List.take_succ_cons, List.take_zero, List.drop_succ_cons, List.drop_zero]
                        repeat (go_big_quiet_step (fail))
                        refine wpQuiet_nil ?_
                        rintro _ ⟨nq2, rfl⟩
                        go_wp2_with (go_at_call 17; refine (HC.out _ (Below.drewN hbel2 _)).mono ?_; rintro e w3 ⟨rfl, hb5⟩)
                        have HI3 := Lib.hid (HI2.out.below (Below.trans (Below.drewN (Below.refl _ _) _) hb5))
                        clear hb5 zx0 zy0 zx1 zy1 zx2 zy2 zx3 zy3 zx4 zy4 zx5 zy5 zx6 zy6 zx7 zy7 zx8 zy8 zx9 zy9 zx10 zy10 zx11 zy11 zx12 zy12 zx13 zy13 zx14 zy14
                        cases q2
                        · have := 0
                          clear this
                          show wpSegs _ _ _ _ _ _ _
                          rw [wpSegs]
                          repeat (go_big_quiet_step (fail))
                          refine wpQuiet_nil ?_
                          rintro _ ⟨nq3, rfl⟩
                          go_wp2
                          go_ret
                          exact ⟨ret_b (by rw [HM2.out, HK.out, HS.out]; rfl), Below.drewN HI3.out.bel _⟩
                        · have HK2 := Lib.hid (show eqL SArm.same xa ya = eqL SArm.same (xa.drop (k + 1)) (ya.drop (k + 1)) by rw [HK.out, HS.out]; rfl)
                          show wpSegs _ _ _ _ _ _ _
                          rw [wpSegs]
                          repeat (go_big_quiet_step (fail))
                          refine wpQuiet_nil ?_
                          rintro _ ⟨nq3, rfl⟩
                          go_wp2
                          go_roundw
                          case rel => exact ⟨k + 1, hltx, by go_num, HK2, Lib.hid (HI3.out.below (Below.drewN (Below.refl _ _) _))⟩
                          case measure => simp [intOf]; omega
                    · have e1 : decide ((k : Int) < (xa.length : Int)) = false := decide_eq_false (by omega)
                      have HKE := Lib.hid (HK.out.trans (eqL_end SArm.same xa ya k (by omega) (by have := HL7.out; omega)))
                      have e1' : decide (k < xa.length) = false := decide_eq_false (by omega)
                      clear hk hltx
                      go_wp2
                      go_ret
                      exact ⟨ret_b (by rw [HM2.out, HKE.out]), hbel⟩
            · have t5 : ((xa.length : Int) != (ya.length : Int)) = true := by first | (simp; done) | (simp; omega)
              have HE := Lib.hid (HM.out.trans (show _ = false by rw [eqL_len SArm.same xa ya k5]; simp))
              clear HM
              have HM := Lib.hid (HE.out.trans (rfl))
              go_enter Tryz.func17, Tryz.ntmps17
              go_wp2
              go_ret
              exact ⟨ret_b HM.out.symm, by (repeat (with_reducible first | exact Below.refl _ _ | refine Below.setCell ?_ ?_ _ | refine Below.alloc ?_ ?_ _ | refine Below.drewN ?_ _ | refine Below.drew ?_)) <;> first | omega | (simp; omega) | (simp; done)⟩
          · have t4 : ((xl.length : Int) != (yl.length : Int)) = true := by first | (simp; done) | (simp; omega)
            have HE := Lib.hid (HM.out.trans (show _ = false by simp [eqL_len SExpr.same xl yl k4]))
            clear HM
            have HM := Lib.hid (HE.out.trans (rfl))
            go_enter Tryz.func17, Tryz.ntmps17
            go_wp2
            go_ret
            exact ⟨ret_b HM.out.symm, by (repeat (with_reducible first | exact Below.refl _ _ | refine Below.setCell ?_ ?_ _ | refine Below.alloc ?_ ?_ _ | refine Below.drewN ?_ _ | refine Below.drew ?_)) <;> first | omega | (simp; omega) | (simp; done)⟩
        · have t3 : (xn == yn) = false := by simpa using k3
          have t3' : (xn != yn) = true := by simpa using k3
          have HM := Lib.hid (HE.out.trans (no3 t3))
          clear HE t1 t2 t3
          subst k1 k2
          go_enter Tryz.func17, Tryz.ntmps17
          go_wp2
          go_ret
          exact ⟨ret_b HM.out.symm, by (repeat (with_reducible first | exact Below.refl _ _ | refine Below.setCell ?_ ?_ _ | refine Below.alloc ?_ ?_ _ | refine Below.drewN ?_ _ | refine Below.drew ?_)) <;> first | omega | (simp; omega) | (simp; done)⟩
      · have t2 : decide (xs = ys) = false := by simpa using k2
        have t2' : (xs.toList != ys.toList) = true := by rw [bne, str_no k2]; rfl
        have t2'' : ¬ xs.toList = ys.toList := by simpa using str_no k2
        have HM := Lib.hid (HE.out.trans (no2 t2))
        clear HE k2 t1 t2
        subst k1
        go_enter Tryz.func17, Tryz.ntmps17
        go_wp2
        go_ret
        exact ⟨ret_b HM.out.symm, by (repeat (with_reducible first | exact Below.refl _ _ | refine Below.setCell ?_ ?_ _ | refine Below.alloc ?_ ?_ _ | refine Below.drewN ?_ _ | refine Below.drew ?_)) <;> first | omega | (simp; omega) | (simp; done)⟩
    · have t1 : (xk == yk) = false := by simpa using k1
      have t1' : (xk != yk) = true := by simpa using k1
      clear k1
      have HM := Lib.hid (HE.out.trans (no1 t1))
      go_enter Tryz.func17, Tryz.ntmps17
      go_wp2
      go_ret
      exact ⟨ret_b HM.out.symm, by (repeat (with_reducible first | exact Below.refl _ _ | refine Below.setCell ?_ ?_ _ | refine Below.alloc ?_ ?_ _ | refine Below.drewN ?_ _ | refine Below.drew ?_)) <;> first | omega | (simp; omega) | (simp; done)⟩
end Go.Proofs.YtnneooidkbhbeaaGreatDoor
/- Contracts of the document's answer for layer 11: the same declarations. Written by gen_shz.py. -/
namespace Go.Proofs.YtnneooidkbhbeaaGreatDoor
open Go.RowKit

set_option maxRecDepth 100000 in
set_option maxHeartbeats 4000000 in
theorem rsameCon_any (x y : SConD) (us vs : List Value) (w : World) (hx : x.Small) (hus : Rds w w.heap.size us x.d) (hvs : Rds w w.heap.size vs y.d) :
    Calls Tryz.prog 117 #[.agg us.toArray, .agg vs.toArray] w fun e w' => e = .returned (.bool (x.same y)) ∧ Below w.heap.size w w' := by
  obtain ⟨v6, rfl, h6, -⟩ := SConD.cells hus
  obtain ⟨u6, rfl, g6, -⟩ := SConD.cells hvs
  have HE := Lib.hid (show x.same y = (decide (x.name = y.name) && eqL SField.same x.fields y.fields) from rfl)
  have H6 := Lib.hid h6
  have G6 := Lib.hid g6
  have hnf := hx.nf
  have HX := Lib.hid hx.f
  obtain ⟨a, c, rfl⟩ := h6.slice_inv
  obtain ⟨a', c', rfl⟩ := g6.slice_inv
  obtain ⟨S, hS⟩ : ∃ B, x.same y = B := ⟨_, rfl⟩
  rw [hS] at HE ⊢
  obtain ⟨xl, hxl⟩ : ∃ z, x.fields = z := ⟨_, rfl⟩
  obtain ⟨yl, hyl⟩ : ∃ z, y.fields = z := ⟨_, rfl⟩
  have HSM := Lib.hid (show ∀ i (h : i < xl.length), xl[i].t.size ≤ 1048576 by subst hxl; exact HX.out)
  rw [hxl, hyl] at HE
  rw [hxl] at H6 hnf ⊢
  rw [hyl] at G6 ⊢
  obtain ⟨xs, hxs⟩ : ∃ z, x.name = z := ⟨_, rfl⟩
  obtain ⟨ys, hys⟩ : ∃ z, y.name = z := ⟨_, rfl⟩
  rw [hxs, hys] at HE
  rw [hxs, hys]
  clear hS hxl hyl hxs hys hus hvs h6 g6 hx HX
  by_cases k2 : xs = ys
  · have HM := Lib.hid (show S = eqL SField.same xl yl by rw [HE.out, decide_eq_true k2]; rfl)
    clear HE
    subst k2
    by_cases k4 : xl.length = yl.length
    · have t4 : ((xl.length : Int) != (yl.length : Int)) = false := by simp [k4]
      have HL := Lib.hid k4
      clear k4
      go_enter Tryz.func117, Tryz.ntmps117
      go_wp2
      obtain ⟨bx, hbx⟩ : ∃ b : Array Value, #[.string xs, .int .i64 x.at_, .int .i64 x.line, .int .i64 x.col, .slice a xl.length c] = b := ⟨_, rfl⟩
      obtain ⟨yb, hby⟩ : ∃ b : Array Value, #[.string xs, .int .i64 y.at_, .int .i64 y.line, .int .i64 y.col, .slice a' yl.length c'] = b := ⟨_, rfl⟩
      have b4 : bx[4]? = some (.slice a xl.length c) := by rw [← hbx]; rfl
      have e4 : yb[4]? = some (.slice a' yl.length c') := by rw [← hby]; rfl
      have HB0 := Lib.hid (TwoB.mk' w bx yb 64)
      obtain ⟨W0, hW0⟩ : ∃ W, (w.alloc (.cells bx 64)).alloc (.cells yb 64) = W := ⟨_, rfl⟩
      rw [hW0] at HB0
      rw [hbx, hby, hW0]
      clear hbx hby hW0
      go_loopw [5] (fun u wr => ∃ k : Nat, k ≤ xl.length ∧ u = .int .i64 k ∧ Hid (eqL SField.same xl yl = eqL SField.same (xl.drop k) (yl.drop k)) ∧ Hid (TwoB w wr bx yb 64)) (fun u _ => xl.length - (intOf u).toNat)
      case atStart => exact ⟨0, Nat.zero_le _, rfl, rfl, HB0⟩
      case round =>
        obtain ⟨wo, rfl⟩ : ∃ z, z = wr := ⟨_, rfl⟩
        obtain ⟨k, hk, rfl, HK, HB⟩ := hrel
        have hbel := HB.out.bel
        have hszo := hbel.size
        have x4 := (HB.out.x.cell 4).trans b4
        have y4 := (HB.out.y.cell 4).trans e4
        by_cases hltx : k < xl.length
        · have hlty : k < yl.length := by have := HL.out; omega
          obtain ⟨blx, offx, cpx, usx, hvx, hbx, hcx, hcellx, hux⟩ := H6.out.elem SField.d_len rfl k hltx (by omega)
          injection hvx with hax hnx hcapx
          subst hax hcapx
          obtain ⟨bly, offy, cpy, usy, hvy, hby, hcy, hcelly, huy⟩ := G6.out.elem SField.d_len rfl k hlty (by omega)
          injection hvy with hay hny hcapy
          subst hay hcapy
          have HS := Lib.hid (eqL_drop SField.same xl yl k hltx hlty)
          have HSS := Lib.hid (show SField.same xl[k] yl[k] = (xl[k].m == yl[k].m && xl[k].t.same yl[k].t) from rfl)
          obtain ⟨utx, rfl, htx, -⟩ := SField.cells hux
          obtain ⟨uty, rfl, hty, -⟩ := SField.cells huy
          have hts := HSM.out k hltx
          have HC := Lib.hid (fun (W : World) (hW : Below w.heap.size w W) => rsameTy_any _ xl[k].t yl[k].t utx uty W (Nat.le_refl _) hts ((htx.keep hW).mono hW.size) ((hty.keep hW).mono hW.size))
          obtain ⟨q, hq⟩ : ∃ b, xl[k].t.same yl[k].t = b := ⟨_, rfl⟩
          rw [hq] at HC HSS
          obtain ⟨v6tx, rfl, g6tx, -⟩ := STy.cells htx
          obtain ⟨a6tx, d6tx, rfl⟩ := g6tx.slice_inv
          obtain ⟨v6ty, rfl, g6ty, -⟩ := STy.cells hty
          obtain ⟨a6ty, d6ty, rfl⟩ := g6ty.slice_inv
          have cx0 := (hbel.cell (p := ⟨blx, offx + k * 8, none⟩) hbx).trans (hcellx 0 _ rfl)
          have cx1 := (hbel.cell (p := ⟨blx, offx + k * 8 + 1, none⟩) hbx).trans (hcellx 1 _ rfl)
          have cx2 := (hbel.cell (p := ⟨blx, offx + k * 8 + 2, none⟩) hbx).trans (hcellx 2 _ rfl)
          have cx3 := (hbel.cell (p := ⟨blx, offx + k * 8 + 3, none⟩) hbx).trans (hcellx 3 _ rfl)
          have cx4 := (hbel.cell (p := ⟨blx, offx + k * 8 + 4, none⟩) hbx).trans (hcellx 4 _ rfl)
          have cx5 := (hbel.cell (p := ⟨blx, offx + k * 8 + 5, none⟩) hbx).trans (hcellx 5 _ rfl)
          have cx6 := (hbel.cell (p := ⟨blx, offx + k * 8 + 6, none⟩) hbx).trans (hcellx 6 _ rfl)
          have cx7 := (hbel.cell (p := ⟨blx, offx + k * 8 + 7, none⟩) hbx).trans (hcellx 7 _ rfl)
          have cy0 := (hbel.cell (p := ⟨bly, offy + k * 8, none⟩) hby).trans (hcelly 0 _ rfl)
          have cy1 := (hbel.cell (p := ⟨bly, offy + k * 8 + 1, none⟩) hby).trans (hcelly 1 _ rfl)
          have cy2 := (hbel.cell (p := ⟨bly, offy + k * 8 + 2, none⟩) hby).trans (hcelly 2 _ rfl)
          have cy3 := (hbel.cell (p := ⟨bly, offy + k * 8 + 3, none⟩) hby).trans (hcelly 3 _ rfl)
          have cy4 := (hbel.cell (p := ⟨bly, offy + k * 8 + 4, none⟩) hby).trans (hcelly 4 _ rfl)
          have cy5 := (hbel.cell (p := ⟨bly, offy + k * 8 + 5, none⟩) hby).trans (hcelly 5 _ rfl)
          have cy6 := (hbel.cell (p := ⟨bly, offy + k * 8 + 6, none⟩) hby).trans (hcelly 6 _ rfl)
          have cy7 := (hbel.cell (p := ⟨bly, offy + k * 8 + 7, none⟩) hby).trans (hcelly 7 _ rfl)
          obtain ⟨xm, hxm⟩ : ∃ z, xl[k].m = z := ⟨_, rfl⟩
          obtain ⟨ym, hym⟩ : ∃ z, yl[k].m = z := ⟨_, rfl⟩
          rw [hxm] at cx0 HSS
          rw [hym] at cy0 HSS
          have e1 : decide ((k : Int) < (xl.length : Int)) = true := decide_eq_true (by omega)
          have i0 : (0 : Int) ≤ (k : Int) := by omega
          have i1 : (k : Int) < (xl.length : Int) := by omega
          have i2 : (k : Int) < (yl.length : Int) := by omega
          clear hcellx hcelly hux huy htx hty g6tx g6ty hq hts hxm hym
          go_upto_region 6 with fail
          by_cases km : xm = ym
          · subst km
            rw [HSS.out] at HS
            refine wp_region_segs [26] (by kernel_rfl) (by kernel_rfl) ?_
            rw [wpSegs]
            simp only [List.take_succ_cons, List.take_zero, List.drop_succ_cons, List.drop_zero]
            repeat (go_big_quiet_step (fail))
            refine wpQuiet_nil ?_
            rintro _ ⟨nq, rfl⟩
            go_wp2_with (go_at_call 152; refine (HC.out _ (Below.drewN hbel _)).mono ?_; rintro e w2 ⟨rfl, hb2⟩)
            have HI2 := Lib.hid (HB.out.below (Below.trans (Below.drewN (Below.refl _ _) _) hb2))
            clear hb2 cx0 cy0 cx1 cy1 cx2 cy2 cx3 cy3 cx4 cy4 cx5 cy5 cx6 cy6 cx7 cy7
            cases q
            · have := 0
              clear this
              show wpSegs _ _ _ _ _ _ _
              rw [wpSegs]
              repeat (go_big_quiet_step (fail))
              refine wpQuiet_nil ?_
              rintro _ ⟨nq2, rfl⟩
              go_wp2
              go_ret
              exact ⟨ret_b (by rw [HM.out, HK.out, HS.out]; simp), Below.drewN HI2.out.bel _⟩
            · have HK2 := Lib.hid (show eqL SField.same xl yl = eqL SField.same (xl.drop (k + 1)) (yl.drop (k + 1)) by rw [HK.out, HS.out]; simp)
              show wpSegs _ _ _ _ _ _ _
              rw [wpSegs]
              repeat (go_big_quiet_step (fail))
              refine wpQuiet_nil ?_
              rintro _ ⟨nq2, rfl⟩
              go_wp2
              go_roundw
              case rel => exact ⟨k + 1, hltx, by go_num, HK2, Lib.hid (HI2.out.below (Below.drewN (Below.refl _ _) _))⟩
              case measure => simp [intOf]; omega
          · have m1 : (xm == ym) = false := by simpa using km
            have m2 : (xm != ym) = true := by simpa using km
            have HMF := Lib.hid (show S = false by rw [HM.out, HK.out, HS.out, HSS.out, m1]; rfl)
            go_quiet (fail)
            go_wp2
            go_ret
            exact ⟨ret_b HMF.out.symm, Below.drewN hbel _⟩
        · have e1 : decide ((k : Int) < (xl.length : Int)) = false := decide_eq_false (by omega)
          have e1' : decide (k < xl.length) = false := decide_eq_false (by omega)
          have HKE := Lib.hid (HK.out.trans (eqL_end SField.same xl yl k (by omega) (by have := HL.out; omega)))
          clear hk hltx
          go_wp2
          go_ret
          exact ⟨ret_b (by rw [HM.out, HKE.out]), hbel⟩
    · have t4 : ((xl.length : Int) != (yl.length : Int)) = true := by first | (simp; done) | (simp; omega)
      have HM := Lib.hid (HM.out.trans (eqL_len SField.same xl yl k4))
      go_enter Tryz.func117, Tryz.ntmps117
      go_wp2
      go_ret
      exact ⟨ret_b HM.out.symm, by (repeat (with_reducible first | exact Below.refl _ _ | refine Below.setCell ?_ ?_ _ | refine Below.alloc ?_ ?_ _ | refine Below.drewN ?_ _ | refine Below.drew ?_)) <;> first | omega | (simp; omega) | (simp; done)⟩
  · have t2 : (xs.toList == ys.toList) = false := str_no k2
    have t2' : (xs.toList != ys.toList) = true := by rw [bne, str_no k2]; rfl
    have HM := Lib.hid (show S = false by rw [HE.out, decide_eq_false k2]; rfl)
    clear HE
    go_enter Tryz.func117, Tryz.ntmps117
    go_wp2
    go_ret
    exact ⟨ret_b HM.out.symm, by (repeat (with_reducible first | exact Below.refl _ _ | refine Below.setCell ?_ ?_ _ | refine Below.alloc ?_ ?_ _ | refine Below.drewN ?_ _ | refine Below.drew ?_)) <;> first | omega | (simp; omega) | (simp; done)⟩
set_option maxRecDepth 100000 in
set_option maxHeartbeats 4000000 in
theorem rsameDecl_any (x y : SDecl) (us vs : List Value) (w : World) (hx : x.Small) (hus : Rds w w.heap.size us x.d) (hvs : Rds w w.heap.size vs y.d) :
    Calls Tryz.prog 58 #[.agg us.toArray, .agg vs.toArray] w fun e w' => e = .returned (.bool (x.same y)) ∧ Below w.heap.size w w' := by
  obtain ⟨v5, v6, ue, rfl, h5, h6, he, -, -⟩ := SDecl.cells hus
  obtain ⟨u5, u6, ve, rfl, g5, g6, ge, -, -⟩ := SDecl.cells hvs
  have HEX := Lib.hid (fun (W : World) (hW : Below w.heap.size w W) => rsameExpr_any _ x.e y.e ue ve W (Nat.le_refl _) hx.e ((he.keep hW).mono hW.size) ((ge.keep hW).mono hW.size))
  have H5 := Lib.hid h5
  have G5 := Lib.hid g5
  have H6 := Lib.hid h6
  have G6 := Lib.hid g6
  obtain ⟨a5, c5, rfl⟩ := h5.slice_inv
  obtain ⟨a5', c5', rfl⟩ := g5.slice_inv
  obtain ⟨a, c, rfl⟩ := h6.slice_inv
  obtain ⟨a', c', rfl⟩ := g6.slice_inv
  obtain ⟨xe, hxe⟩ : ∃ B, x.e = B := ⟨_, rfl⟩
  obtain ⟨ye, hye⟩ : ∃ B, y.e = B := ⟨_, rfl⟩
  have HE := Lib.hid (show x.same y = (x.kind == y.kind && (decide (x.name = y.name) && (x.rc == y.rc && (eqL sEq x.params y.params && (x.e.same y.e && eqL SConD.same x.cons y.cons))))) from rfl)
  rw [hxe] at he HE HEX
  rw [hye] at ge HE HEX
  obtain ⟨v6e, v7e, rfl, k6e, k7e, -⟩ := SExpr.cells he
  obtain ⟨u6e, u7e, rfl, l6e, l7e, -⟩ := SExpr.cells ge
  obtain ⟨a6ex, d6ex, rfl⟩ := k6e.slice_inv
  obtain ⟨a7ex, d7ex, rfl⟩ := k7e.slice_inv
  obtain ⟨a6ey, d6ey, rfl⟩ := l6e.slice_inv
  obtain ⟨a7ey, d7ey, rfl⟩ := l7e.slice_inv
  obtain ⟨S, hS⟩ : ∃ B, x.same y = B := ⟨_, rfl⟩
  obtain ⟨q2, hq2⟩ : ∃ B, xe.same ye = B := ⟨_, rfl⟩
  obtain ⟨xp, hxp⟩ : ∃ z, x.params = z := ⟨_, rfl⟩
  obtain ⟨yp, hyp⟩ : ∃ z, y.params = z := ⟨_, rfl⟩
  obtain ⟨xl, hxl⟩ : ∃ z, x.cons = z := ⟨_, rfl⟩
  obtain ⟨yl, hyl⟩ : ∃ z, y.cons = z := ⟨_, rfl⟩
  have hnp : xp.length ≤ 1048576 := by rw [← hxp]; exact hx.np
  have hnl : xl.length ≤ 1048576 := by rw [← hxl]; exact hx.nc
  have HSM := Lib.hid (show ∀ i (h : i < xl.length), xl[i].Small by subst hxl; exact hx.c)
  obtain ⟨xk, hxk⟩ : ∃ z, x.kind = z := ⟨_, rfl⟩
  obtain ⟨yk, hyk⟩ : ∃ z, y.kind = z := ⟨_, rfl⟩
  obtain ⟨xs, hxs⟩ : ∃ z, x.name = z := ⟨_, rfl⟩
  obtain ⟨ys, hys⟩ : ∃ z, y.name = z := ⟨_, rfl⟩
  obtain ⟨xn, hxn⟩ : ∃ z, x.rc = z := ⟨_, rfl⟩
  obtain ⟨yn, hyn⟩ : ∃ z, y.rc = z := ⟨_, rfl⟩
  rw [hS, hq2, hxp, hyp, hxl, hyl, hxk, hyk, hxs, hys, hxn, hyn] at HE
  rw [hq2] at HEX
  rw [hxp] at H5
  rw [hyp] at G5
  rw [hxl] at H6
  rw [hyl] at G6
  rw [hS, hxp, hyp, hxl, hyl, hxk, hyk, hxs, hys, hxn, hyn]
  clear hS hq2 hxp hyp hxl hyl hxk hyk hxs hys hxn hyn h5 g5 h6 g6 he ge hus hvs hx hxe hye k6e k7e l6e l7e
  by_cases k1 : xk = yk
  · subst k1
    by_cases k2 : xs = ys
    · subst k2
      by_cases k3 : xn = yn
      · subst k3
        have HM := Lib.hid (show S = (eqL sEq xp yp && (q2 && eqL SConD.same xl yl)) by rw [HE.out]; simp)
        clear HE
        go_enter Tryz.func58, Tryz.ntmps58
        go_wp2_with fail
        refine (HEX.out _ (by (repeat (with_reducible first | exact Below.refl _ _ | refine Below.setCell ?_ ?_ _ | refine Below.alloc ?_ ?_ _ | refine Below.drewN ?_ _ | refine Below.drew ?_)) <;> first | omega | (simp; omega) | (simp; done))).mono ?_
        rintro e w2 ⟨rfl, hb2⟩
        have hfin : Below w.heap.size w w2 := Below.trans (by (repeat (with_reducible first | exact Below.refl _ _ | refine Below.setCell ?_ ?_ _ | refine Below.alloc ?_ ?_ _ | refine Below.drewN ?_ _ | refine Below.drew ?_)) <;> first | omega | (simp; omega) | (simp; done)) (hb2.mono (by first | omega | (simp; omega) | (simp; done)))
        have hB := (TwoB.mk' w _ _ 40).below hb2
        have z5 : w2.cell? ⟨w.heap.size, 5, none⟩ = some (.slice a5 xp.length c5) := (hB.x.cell 5).trans rfl
        have y5 : w2.cell? ⟨w.heap.size + 1, 5, none⟩ = some (.slice a5' yp.length c5') := (hB.y.cell 5).trans rfl
        have z6 : w2.cell? ⟨w.heap.size, 6, none⟩ = some (.slice a xl.length c) := (hB.x.cell 6).trans rfl
        have y6 : w2.cell? ⟨w.heap.size + 1, 6, none⟩ = some (.slice a' yl.length c') := (hB.y.cell 6).trans rfl
        obtain ⟨bx, hbx⟩ : ∃ b : Array Value, #[.int .u8 xk, .string xs, .int .i64 x.at_, .int .i64 x.line, .int .i64 x.col, .slice a5 xp.length c5, .slice a xl.length c, .bool xn, .int .u8 xe.kind, .string xe.s, .int .i64 xe.n, .int .i64 xe.at_, .int .i64 xe.line, .int .i64 xe.col, .slice a6ex xe.l.length d6ex, .slice a7ex xe.arms.length d7ex] = b := ⟨_, rfl⟩
        obtain ⟨yb, hby⟩ : ∃ b : Array Value, #[.int .u8 xk, .string xs, .int .i64 y.at_, .int .i64 y.line, .int .i64 y.col, .slice a5' yp.length c5', .slice a' yl.length c', .bool xn, .int .u8 ye.kind, .string ye.s, .int .i64 ye.n, .int .i64 ye.at_, .int .i64 ye.line, .int .i64 ye.col, .slice a6ey ye.l.length d6ey, .slice a7ey ye.arms.length d7ey] = b := ⟨_, rfl⟩
        have b5 : bx[5]? = some (.slice a5 xp.length c5) := by rw [← hbx]; rfl
        have e5 : yb[5]? = some (.slice a5' yp.length c5') := by rw [← hby]; rfl
        have b6 : bx[6]? = some (.slice a xl.length c) := by rw [← hbx]; rfl
        have e6 : yb[6]? = some (.slice a' yl.length c') := by rw [← hby]; rfl
        have HB0 : Hid (TwoB w w2 bx yb 40) := by rw [← hbx, ← hby]; exact Lib.hid hB
        clear hb2 hB hbx hby
        cases q2
        · have HM2 := Lib.hid (show S = false by rw [HM.out]; simp)
          go_wp2
          go_ret
          exact ⟨ret_b HM2.out.symm, hfin⟩
        · by_cases k4 : xp.length = yp.length
          · have t4 : ((xp.length : Int) != (yp.length : Int)) = false := by simp [k4]
            have HL5 := Lib.hid k4
            clear k4
            by_cases k5 : xl.length = yl.length
            · have t5 : ((xl.length : Int) != (yl.length : Int)) = false := by simp [k5]
              have HL6 := Lib.hid k5
              clear k5
              have HM2 := Lib.hid (show S = (eqL sEq xp yp && eqL SConD.same xl yl) by rw [HM.out]; rfl)
              clear HM HEX
              go_wp2
              clear z5 y5 z6 y6
              go_loopw [5] (fun u wr => ∃ k : Nat, k ≤ xp.length ∧ u = .int .i64 k ∧ Hid (eqL sEq xp yp = eqL sEq (xp.drop k) (yp.drop k)) ∧ Hid (TwoB w wr bx yb 40)) (fun u _ => xp.length - (intOf u).toNat)
              case atStart => exact ⟨0, Nat.zero_le _, rfl, rfl, HB0⟩
              case round =>
                obtain ⟨wo, rfl⟩ : ∃ z, z = wr := ⟨_, rfl⟩
                obtain ⟨k, hk, rfl, HK, HB⟩ := hrel
                have hbel := HB.out.bel
                have hszo := hbel.size
                have x5 := (HB.out.x.cell 5).trans b5
                have y5 := (HB.out.y.cell 5).trans e5
                by_cases hltx : k < xp.length
                · have hlty : k < yp.length := by have := HL5.out; omega
                  obtain ⟨b1, o1, cp1, q1, hb1, cell1⟩ := strAt H5.out k hltx hnp
                  obtain ⟨b2, o2, cp2, q2, hb2, cell2⟩ := strAt G5.out k hlty (by have := HL5.out; omega)
                  injection q1 with q1 _ q1'
                  injection q2 with q2 _ q2'
                  subst q1 q1' q2 q2'
                  have cx := (hbel.cell (p := ⟨b1, o1 + k, none⟩) hb1).trans cell1
                  have cy := (hbel.cell (p := ⟨b2, o2 + k, none⟩) hb2).trans cell2
                  have HS := Lib.hid (eqL_drop sEq xp yp k hltx hlty)
                  obtain ⟨s1, hs1⟩ : ∃ x, xp[k] = x := ⟨_, rfl⟩
                  obtain ⟨s2, hs2⟩ : ∃ x, yp[k] = x := ⟨_, rfl⟩
                  rw [hs1] at cx HS
                  rw [hs2] at cy HS
                  have e1 : decide ((k : Int) < (xp.length : Int)) = true := decide_eq_true (by omega)
                  have i0 : (0 : Int) ≤ (k : Int) := by omega
                  have i1 : (k : Int) < (xp.length : Int) := by omega
                  have i2 : (k : Int) < (yp.length : Int) := by omega
                  clear hs1 hs2 cell1 cell2
                  go_upto_region 6 with fail
                  by_cases heq : s1 = s2
                  · have HK2 := Lib.hid (show eqL sEq xp yp = eqL sEq (xp.drop (k + 1)) (yp.drop (k + 1)) by rw [HK.out, HS.out]; simp [sEq, heq])
                    clear HS
                    subst heq
                    go_quiet (fail)
                    go_wp2
                    go_roundw
                    case rel => exact ⟨k + 1, hltx, by go_num, HK2, Lib.hid (HB.out.below (Below.drewN (Below.refl _ _) _))⟩
                    case measure => simp [intOf]; omega
                  · have t6 : (s1.toList == s2.toList) = false := str_no heq
                    have HMF := Lib.hid (show S = false by rw [HM2.out, HK.out, HS.out]; simp [sEq, heq])
                    clear heq
                    go_quiet (fail)
                    go_wp2
                    go_ret
                    exact ⟨ret_b HMF.out.symm, Below.drewN hbel _⟩
                · have e1 : decide ((k : Int) < (xp.length : Int)) = false := decide_eq_false (by omega)
                  have e1' : decide (k < xp.length) = false := decide_eq_false (by omega)
                  have HM3 := Lib.hid (show S = eqL SConD.same xl yl by rw [HM2.out, HK.out, eqL_end sEq xp yp k (by omega) (by have := HL5.out; omega)]; rfl)
                  have HB0 := HB
                  clear hk hltx
                  go_wp2
                  clear x5 y5 hbel hszo HK HB HM2 b5 e5 e1 H5 G5
                  clear e1'
                  go_loopw [6] (fun u wr => ∃ k : Nat, k ≤ xl.length ∧ u = .int .i64 k ∧ Hid (eqL SConD.same xl yl = eqL SConD.same (xl.drop k) (yl.drop k)) ∧ Hid (TwoB w wr bx yb 40)) (fun u _ => xl.length - (intOf u).toNat)
                  case atStart => exact ⟨0, Nat.zero_le _, rfl, rfl, HB0⟩
                  case round =>
                    obtain ⟨wo, rfl⟩ : ∃ z, z = wr := ⟨_, rfl⟩
                    obtain ⟨k, hk, rfl, HK, HB⟩ := hrel
                    have hbel := HB.out.bel
                    have hszo := hbel.size
                    have x6 := (HB.out.x.cell 6).trans b6
                    have y6 := (HB.out.y.cell 6).trans e6
                    by_cases hltx : k < xl.length
                    · have hlty : k < yl.length := by have := HL6.out; omega
                      obtain ⟨blx, offx, cpx, usx, hvx, hbx, hcx, hcellx, hux⟩ := H6.out.elem SConD.d_len rfl k hltx (by omega)
                      injection hvx with hax hnx hcapx
                      subst hax hcapx
                      obtain ⟨bly, offy, cpy, usy, hvy, hby, hcy, hcelly, huy⟩ := G6.out.elem SConD.d_len rfl k hlty (by omega)
                      injection hvy with hay hny hcapy
                      subst hay hcapy
                      have hsm := HSM.out k hltx
                      have HC := Lib.hid (fun (W : World) (hW : Below w.heap.size w W) => rsameCon_any xl[k] yl[k] usx usy W hsm ((hux.keep hW).mono hW.size) ((huy.keep hW).mono hW.size))
                      have HS := Lib.hid (eqL_drop SConD.same xl yl k hltx hlty)
                      obtain ⟨q, hq⟩ : ∃ b, SConD.same xl[k] yl[k] = b := ⟨_, rfl⟩
                      rw [hq] at HC HS
                      obtain ⟨v6x, rfl, g6x, -⟩ := SConD.cells hux
                      obtain ⟨a6x, d6x, rfl⟩ := g6x.slice_inv
                      obtain ⟨v6y, rfl, g6y, -⟩ := SConD.cells huy
                      obtain ⟨a6y, d6y, rfl⟩ := g6y.slice_inv
                      have cx0 := (hbel.cell (p := ⟨blx, offx + k * 5, none⟩) hbx).trans (hcellx 0 _ rfl)
                      have cx1 := (hbel.cell (p := ⟨blx, offx + k * 5 + 1, none⟩) hbx).trans (hcellx 1 _ rfl)
                      have cx2 := (hbel.cell (p := ⟨blx, offx + k * 5 + 2, none⟩) hbx).trans (hcellx 2 _ rfl)
                      have cx3 := (hbel.cell (p := ⟨blx, offx + k * 5 + 3, none⟩) hbx).trans (hcellx 3 _ rfl)
                      have cx4 := (hbel.cell (p := ⟨blx, offx + k * 5 + 4, none⟩) hbx).trans (hcellx 4 _ rfl)
                      have cy0 := (hbel.cell (p := ⟨bly, offy + k * 5, none⟩) hby).trans (hcelly 0 _ rfl)
                      have cy1 := (hbel.cell (p := ⟨bly, offy + k * 5 + 1, none⟩) hby).trans (hcelly 1 _ rfl)
                      have cy2 := (hbel.cell (p := ⟨bly, offy + k * 5 + 2, none⟩) hby).trans (hcelly 2 _ rfl)
                      have cy3 := (hbel.cell (p := ⟨bly, offy + k * 5 + 3, none⟩) hby).trans (hcelly 3 _ rfl)
                      have cy4 := (hbel.cell (p := ⟨bly, offy + k * 5 + 4, none⟩) hby).trans (hcelly 4 _ rfl)
                      have e1 : decide ((k : Int) < (xl.length : Int)) = true := decide_eq_true (by omega)
                      have i0 : (0 : Int) ≤ (k : Int) := by omega
                      have i1 : (k : Int) < (xl.length : Int) := by omega
                      have i2 : (k : Int) < (yl.length : Int) := by omega
                      clear hcellx hcelly hux huy hq hsm g6x g6y
                      go_upto_region 11 with fail
                      refine wp_region_segs [10] (by kernel_rfl) (by kernel_rfl) ?_
                      rw [wpSegs]
                      simp only [List.take_succ_cons, List.take_zero, List.drop_succ_cons, List.drop_zero]
                      repeat (go_big_quiet_step (fail))
                      refine wpQuiet_nil ?_
                      rintro _ ⟨nq, rfl⟩
                      go_wp2_with (go_at_call 117; refine (HC.out _ (Below.drewN hbel _)).mono ?_; rintro e w2 ⟨rfl, hb2⟩)
                      have HI2 := Lib.hid (HB.out.below (Below.trans (Below.drewN (Below.refl _ _) _) hb2))
                      clear hb2 cx0 cy0 cx1 cy1 cx2 cy2 cx3 cy3 cx4 cy4
                      cases q
                      · have := 0
                        clear this
                        show wpSegs _ _ _ _ _ _ _
                        rw [wpSegs]
                        repeat (go_big_quiet_step (fail))
                        refine wpQuiet_nil ?_
                        rintro _ ⟨nq2, rfl⟩
                        go_wp2
                        go_ret
                        exact ⟨ret_b (by rw [HM3.out, HK.out, HS.out]; rfl), Below.drewN HI2.out.bel _⟩
                      · have HK2 := Lib.hid (show eqL SConD.same xl yl = eqL SConD.same (xl.drop (k + 1)) (yl.drop (k + 1)) by rw [HK.out, HS.out]; rfl)
                        show wpSegs _ _ _ _ _ _ _
                        rw [wpSegs]
                        repeat (go_big_quiet_step (fail))
                        refine wpQuiet_nil ?_
                        rintro _ ⟨nq2, rfl⟩
                        go_wp2
                        go_roundw
                        case rel => exact ⟨k + 1, hltx, by go_num, HK2, Lib.hid (HI2.out.below (Below.drewN (Below.refl _ _) _))⟩
                        case measure => simp [intOf]; omega
                    · have e1 : decide ((k : Int) < (xl.length : Int)) = false := decide_eq_false (by omega)
                      have e1' : decide (k < xl.length) = false := decide_eq_false (by omega)
                      have HMF := Lib.hid (show S = true by rw [HM3.out, HK.out, eqL_end SConD.same xl yl k (by omega) (by have := HL6.out; omega)])
                      clear hk hltx
                      go_wp2
                      go_ret
                      exact ⟨ret_b HMF.out.symm, hbel⟩
            · have t5 : ((xl.length : Int) != (yl.length : Int)) = true := by first | (simp; done) | (simp; omega)
              have HM2 := Lib.hid (show S = false by rw [HM.out, eqL_len SConD.same xl yl k5]; simp)
              go_wp2
              go_ret
              exact ⟨ret_b HM2.out.symm, hfin⟩
          · have t4 : ((xp.length : Int) != (yp.length : Int)) = true := by first | (simp; done) | (simp; omega)
            have HM2 := Lib.hid (show S = false by rw [HM.out, eqL_len sEq xp yp k4]; simp)
            go_wp2
            go_ret
            exact ⟨ret_b HM2.out.symm, hfin⟩
      · have HM := Lib.hid (show S = false by rw [HE.out]; cases xn <;> cases yn <;> simp at k3 ⊢)
        clear HE
        cases xn <;> cases yn
        · exact absurd rfl k3
        · clear k3
          go_enter Tryz.func58, Tryz.ntmps58
          go_wp2
          go_ret
          exact ⟨ret_b HM.out.symm, by (repeat (with_reducible first | exact Below.refl _ _ | refine Below.setCell ?_ ?_ _ | refine Below.alloc ?_ ?_ _ | refine Below.drewN ?_ _ | refine Below.drew ?_)) <;> first | omega | (simp; omega) | (simp; done)⟩
        · clear k3
          go_enter Tryz.func58, Tryz.ntmps58
          go_wp2
          go_ret
          exact ⟨ret_b HM.out.symm, by (repeat (with_reducible first | exact Below.refl _ _ | refine Below.setCell ?_ ?_ _ | refine Below.alloc ?_ ?_ _ | refine Below.drewN ?_ _ | refine Below.drew ?_)) <;> first | omega | (simp; omega) | (simp; done)⟩
        · exact absurd rfl k3
    · have t2 : (xs.toList == ys.toList) = false := str_no k2
      have t2' : (xs.toList != ys.toList) = true := by rw [bne, str_no k2]; rfl
      have HM := Lib.hid (show S = false by rw [HE.out, decide_eq_false k2]; simp)
      clear HE
      go_enter Tryz.func58, Tryz.ntmps58
      go_wp2
      go_ret
      exact ⟨ret_b HM.out.symm, by (repeat (with_reducible first | exact Below.refl _ _ | refine Below.setCell ?_ ?_ _ | refine Below.alloc ?_ ?_ _ | refine Below.drewN ?_ _ | refine Below.drew ?_)) <;> first | omega | (simp; omega) | (simp; done)⟩
  · have t1 : (xk == yk) = false := by simpa using k1
    have t1' : (xk != yk) = true := by simpa using k1
    have HM := Lib.hid (show S = false by rw [HE.out, t1]; rfl)
    clear HE k1
    go_enter Tryz.func58, Tryz.ntmps58
    go_wp2
    go_ret
    exact ⟨ret_b HM.out.symm, by (repeat (with_reducible first | exact Below.refl _ _ | refine Below.setCell ?_ ?_ _ | refine Below.alloc ?_ ?_ _ | refine Below.drewN ?_ _ | refine Below.drew ?_)) <;> first | omega | (simp; omega) | (simp; done)⟩
end Go.Proofs.YtnneooidkbhbeaaGreatDoor
