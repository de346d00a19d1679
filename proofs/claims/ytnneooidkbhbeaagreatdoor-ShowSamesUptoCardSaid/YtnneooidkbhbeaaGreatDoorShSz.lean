/- The document's measures for layer 11 answer, whatever they answer. Written by gen_shn.py. -/
import Derived.Test.YtnneooidkbhbeaaGreatDoorShY
import Derived.Test.YtnneooidkbhbeaaGreatDoorShD
import Derived.Test.YtnneooidkbhbeaaGreatDoorExp
import Derived.Deep.CutBlock
import Derived.Deep.DeepCutAuto
import Derived.Test.YtnneooidkbhbeaaGreatDoorRows
import Derived.ProofKit
import Derived.OpenShut
set_option linter.unusedVariables false
set_option linter.unusedSimpArgs false
namespace Go.Proofs.YtnneooidkbhbeaaGreatDoor
open Go.RowKit

def Num (w : World) (e : Ending) (w' : World) : Prop := (∃ z : Int, e = .returned (.int .i64 z)) ∧ Below w.heap.size w w'
theorem numb (w w' : World) (z : Int) (h : Below w.heap.size w w') : Num w (.returned (.int .i64 z)) w' := ⟨⟨z, rfl⟩, h⟩

set_option maxRecDepth 100000 in
set_option maxHeartbeats 4000000 in
theorem rsizePat_any : ∀ (N : Nat) (x : SPat) (us : List Value) (dep : Int) (w : World), x.size ≤ N → x.size ≤ 1048576 → Rds w w.heap.size us x.d →
    Calls Tryz.prog 27 #[.agg us.toArray, .int .i64 dep] w (Num w) := by
  intro N
  induction N with
  | zero => intro x us dep w h; have := x.size_pos; omega
  | succ N ih =>
    intro x us dep w hN hs hus
    have IH := Lib.hid ih
    clear ih
    obtain ⟨v6, rfl, h6, -⟩ := SPat.cells hus
    have hsz := x.size_eq
    have hlen := SPat.sizes_len x.l
    have hN2 : SPat.sizes x.l ≤ N ∧ SPat.sizes x.l ≤ 1048576 := by omega
    have H6 := Lib.hid h6
    obtain ⟨a, c, rfl⟩ := h6.slice_inv
    obtain ⟨xl, hxl⟩ : ∃ z, x.l = z := ⟨_, rfl⟩
    rw [hxl] at H6 hN2 hlen ⊢
    have hl6 : xl.length ≤ 1048576 := by omega
    clear hxl hus h6 hsz hlen hN hs
    by_cases hd : 200 < dep
    · have d1 : decide (200 < dep) = true := decide_eq_true hd
      go_enter Tryz.func27, Tryz.ntmps27
      go_wp2
      go_ret
      exact numb _ _ _ (by (repeat (with_reducible first | exact Below.refl _ _ | refine Below.setCell ?_ ?_ _ | refine Below.alloc ?_ ?_ _ | refine Below.drewN ?_ _ | refine Below.drew ?_)) <;> first | omega | (simp; omega) | (simp; done))
    have d1 : decide (200 < dep) = false := decide_eq_false hd
    clear hd
    go_enter Tryz.func27, Tryz.ntmps27
    go_wp2
    obtain ⟨bx, hbx⟩ : ∃ b : Array Value, #[.int .u8 x.kind, .string x.s, .int .i64 x.n, .int .i64 x.at_, .int .i64 x.line, .int .i64 x.col, .slice a xl.length c] = b := ⟨_, rfl⟩
    have b6 : bx[6]? = some (.slice a xl.length c) := by rw [← hbx]; rfl
    have HB0 := Lib.hid (OneB.mk' w bx 69)
    obtain ⟨W0, hW0⟩ : ∃ W, w.alloc (.cells bx 69) = W := ⟨_, rfl⟩
    rw [hW0] at HB0
    rw [hbx, hW0]
    clear hbx hW0
    go_loopw [5, 6] (fun ua uk wr => ∃ (k : Nat) (z : Int), k ≤ xl.length ∧ uk = .int .i64 k ∧ ua = .int .i64 z ∧ Hid (OneB w wr bx 69)) (fun _ u _ => xl.length - (intOf u).toNat)
    case atStart => exact ⟨0, _, Nat.zero_le _, rfl, rfl, HB0⟩
    case round =>
      obtain ⟨wo, rfl⟩ : ∃ z, z = wr := ⟨_, rfl⟩
      obtain ⟨k, z, hk, rfl, rfl, HB⟩ := hrel
      have hbel := HB.out.bel
      have hszo := hbel.size
      have x6 := (HB.out.x.cell 6).trans b6
      by_cases hltx : k < xl.length
      · have e1 : decide ((k : Int) < (xl.length : Int)) = true := decide_eq_true (by omega)
        have e1' : decide (k < xl.length) = true := decide_eq_true hltx
        by_cases hz : z ≤ 9000
        · have z1 : decide (z ≤ 9000) = true := decide_eq_true hz
          clear hz
          obtain ⟨blx, offx, cpx, usx, hvx, hbx, hcx, hcellx, hux⟩ := H6.out.elem SPat.d_len rfl k hltx (by omega)
          injection hvx with hax hnx hcapx
          subst hax hcapx
          have HC := Lib.hid (fun (W : World) (hW : Below w.heap.size w W) (dd : Int) => IH.out xl[k] usx dd W (by have := SPat.sizes_get xl k hltx; omega) (by have := SPat.sizes_get xl k hltx; omega) ((hux.keep hW).mono hW.size))
          obtain ⟨v6x, rfl, g6x, -⟩ := SPat.cells hux
          obtain ⟨a6x, d6x, rfl⟩ := g6x.slice_inv
          have cx0 := (hbel.cell (p := ⟨blx, offx + k * 7, none⟩) hbx).trans (hcellx 0 _ rfl)
          have cx1 := (hbel.cell (p := ⟨blx, offx + k * 7 + 1, none⟩) hbx).trans (hcellx 1 _ rfl)
          have cx2 := (hbel.cell (p := ⟨blx, offx + k * 7 + 2, none⟩) hbx).trans (hcellx 2 _ rfl)
          have cx3 := (hbel.cell (p := ⟨blx, offx + k * 7 + 3, none⟩) hbx).trans (hcellx 3 _ rfl)
          have cx4 := (hbel.cell (p := ⟨blx, offx + k * 7 + 4, none⟩) hbx).trans (hcellx 4 _ rfl)
          have cx5 := (hbel.cell (p := ⟨blx, offx + k * 7 + 5, none⟩) hbx).trans (hcellx 5 _ rfl)
          have cx6 := (hbel.cell (p := ⟨blx, offx + k * 7 + 6, none⟩) hbx).trans (hcellx 6 _ rfl)
          have i0 : (0 : Int) ≤ (k : Int) := by omega
          have i1 : (k : Int) < (xl.length : Int) := by omega
          clear hcellx hux g6x
          go_wp2_with fail
          refine (HC.out _ hbel _).mono ?_
          rintro e w2 ⟨⟨y, rfl⟩, hb2⟩
          have HB2 := Lib.hid (HB.out.below hb2)
          clear cx0 cx1 cx2 cx3 cx4 cx5 cx6 hb2
          go_wp2
          go_roundw
          case rel => exact ⟨k + 1, _, hltx, by go_num, rfl, HB2⟩
          case measure => simp [intOf]; omega
        · have z1 : decide (z ≤ 9000) = false := decide_eq_false hz
          clear hz
          go_wp2
          go_ret
          exact numb _ _ _ hbel
      · have e1 : decide ((k : Int) < (xl.length : Int)) = false := decide_eq_false (by omega)
        have e1' : decide (k < xl.length) = false := decide_eq_false (by omega)
        clear hltx
        go_wp2
        go_ret
        exact numb _ _ _ hbel
set_option maxRecDepth 100000 in
set_option maxHeartbeats 4000000 in
theorem rsizeTy_any : ∀ (N : Nat) (x : STy) (us : List Value) (dep : Int) (w : World), x.size ≤ N → x.size ≤ 1048576 → Rds w w.heap.size us x.d →
    Calls Tryz.prog 26 #[.agg us.toArray, .int .i64 dep] w (Num w) := by
  intro N
  induction N with
  | zero => intro x us dep w h; have := x.size_pos; omega
  | succ N ih =>
    intro x us dep w hN hs hus
    have IH := Lib.hid ih
    clear ih
    obtain ⟨v6, rfl, h6, -⟩ := STy.cells hus
    have hsz := x.size_eq
    have hlen := STy.sizes_len x.l
    have hN2 : STy.sizes x.l ≤ N ∧ STy.sizes x.l ≤ 1048576 := by omega
    have H6 := Lib.hid h6
    obtain ⟨a, c, rfl⟩ := h6.slice_inv
    obtain ⟨xl, hxl⟩ : ∃ z, x.l = z := ⟨_, rfl⟩
    rw [hxl] at H6 hN2 hlen ⊢
    have hl6 : xl.length ≤ 1048576 := by omega
    clear hxl hus h6 hsz hlen hN hs
    by_cases hd : 200 < dep
    · have d1 : decide (200 < dep) = true := decide_eq_true hd
      go_enter Tryz.func26, Tryz.ntmps26
      go_wp2
      go_ret
      exact numb _ _ _ (by (repeat (with_reducible first | exact Below.refl _ _ | refine Below.setCell ?_ ?_ _ | refine Below.alloc ?_ ?_ _ | refine Below.drewN ?_ _ | refine Below.drew ?_)) <;> first | omega | (simp; omega) | (simp; done))
    have d1 : decide (200 < dep) = false := decide_eq_false hd
    clear hd
    go_enter Tryz.func26, Tryz.ntmps26
    go_wp2
    obtain ⟨bx, hbx⟩ : ∃ b : Array Value, #[.int .u8 x.kind, .string x.s, .int .u8 x.m, .int .i64 x.at_, .int .i64 x.line, .int .i64 x.col, .slice a xl.length c] = b := ⟨_, rfl⟩
    have b6 : bx[6]? = some (.slice a xl.length c) := by rw [← hbx]; rfl
    have HB0 := Lib.hid (OneB.mk' w bx 59)
    obtain ⟨W0, hW0⟩ : ∃ W, w.alloc (.cells bx 59) = W := ⟨_, rfl⟩
    rw [hW0] at HB0
    rw [hbx, hW0]
    clear hbx hW0
    go_loopw [5, 6] (fun ua uk wr => ∃ (k : Nat) (z : Int), k ≤ xl.length ∧ uk = .int .i64 k ∧ ua = .int .i64 z ∧ Hid (OneB w wr bx 59)) (fun _ u _ => xl.length - (intOf u).toNat)
    case atStart => exact ⟨0, _, Nat.zero_le _, rfl, rfl, HB0⟩
    case round =>
      obtain ⟨wo, rfl⟩ : ∃ z, z = wr := ⟨_, rfl⟩
      obtain ⟨k, z, hk, rfl, rfl, HB⟩ := hrel
      have hbel := HB.out.bel
      have hszo := hbel.size
      have x6 := (HB.out.x.cell 6).trans b6
      by_cases hltx : k < xl.length
      · have e1 : decide ((k : Int) < (xl.length : Int)) = true := decide_eq_true (by omega)
        have e1' : decide (k < xl.length) = true := decide_eq_true hltx
        by_cases hz : z ≤ 9000
        · have z1 : decide (z ≤ 9000) = true := decide_eq_true hz
          clear hz
          obtain ⟨blx, offx, cpx, usx, hvx, hbx, hcx, hcellx, hux⟩ := H6.out.elem STy.d_len rfl k hltx (by omega)
          injection hvx with hax hnx hcapx
          subst hax hcapx
          have HC := Lib.hid (fun (W : World) (hW : Below w.heap.size w W) (dd : Int) => IH.out xl[k] usx dd W (by have := STy.sizes_get xl k hltx; omega) (by have := STy.sizes_get xl k hltx; omega) ((hux.keep hW).mono hW.size))
          obtain ⟨v6x, rfl, g6x, -⟩ := STy.cells hux
          obtain ⟨a6x, d6x, rfl⟩ := g6x.slice_inv
          have cx0 := (hbel.cell (p := ⟨blx, offx + k * 7, none⟩) hbx).trans (hcellx 0 _ rfl)
          have cx1 := (hbel.cell (p := ⟨blx, offx + k * 7 + 1, none⟩) hbx).trans (hcellx 1 _ rfl)
          have cx2 := (hbel.cell (p := ⟨blx, offx + k * 7 + 2, none⟩) hbx).trans (hcellx 2 _ rfl)
          have cx3 := (hbel.cell (p := ⟨blx, offx + k * 7 + 3, none⟩) hbx).trans (hcellx 3 _ rfl)
          have cx4 := (hbel.cell (p := ⟨blx, offx + k * 7 + 4, none⟩) hbx).trans (hcellx 4 _ rfl)
          have cx5 := (hbel.cell (p := ⟨blx, offx + k * 7 + 5, none⟩) hbx).trans (hcellx 5 _ rfl)
          have cx6 := (hbel.cell (p := ⟨blx, offx + k * 7 + 6, none⟩) hbx).trans (hcellx 6 _ rfl)
          have i0 : (0 : Int) ≤ (k : Int) := by omega
          have i1 : (k : Int) < (xl.length : Int) := by omega
          clear hcellx hux g6x
          go_wp2_with fail
          refine (HC.out _ hbel _).mono ?_
          rintro e w2 ⟨⟨y, rfl⟩, hb2⟩
          have HB2 := Lib.hid (HB.out.below hb2)
          clear cx0 cx1 cx2 cx3 cx4 cx5 cx6 hb2
          go_wp2
          go_roundw
          case rel => exact ⟨k + 1, _, hltx, by go_num, rfl, HB2⟩
          case measure => simp [intOf]; omega
        · have z1 : decide (z ≤ 9000) = false := decide_eq_false hz
          clear hz
          go_wp2
          go_ret
          exact numb _ _ _ hbel
      · have e1 : decide ((k : Int) < (xl.length : Int)) = false := decide_eq_false (by omega)
        have e1' : decide (k < xl.length) = false := decide_eq_false (by omega)
        clear hltx
        go_wp2
        go_ret
        exact numb _ _ _ hbel
set_option maxRecDepth 100000 in
set_option maxHeartbeats 4000000 in
theorem rsizeExpr_any : ∀ (N : Nat) (x : SExpr) (us : List Value) (dep : Int) (w : World), x.size ≤ N → x.size ≤ 1048576 → Rds w w.heap.size us x.d →
    Calls Tryz.prog 9 #[.agg us.toArray, .int .i64 dep] w (Num w) := by
  intro N
  induction N with
  | zero => intro x us dep w h; have := x.size_pos; omega
  | succ N ih =>
    intro x us dep w hN hs hus
    have IH := Lib.hid ih
    clear ih
    obtain ⟨v6, v7, rfl, h6, h7, -⟩ := SExpr.cells hus
    have hsz := x.size_eq
    have hlen := SExpr.sizes_len x.l
    have hlen7 := SArm.sizes_len x.arms
    have hN2 : SExpr.sizes x.l ≤ N ∧ SExpr.sizes x.l ≤ 1048576 ∧ SArm.sizes x.arms ≤ N ∧ SArm.sizes x.arms ≤ 1048576 := by omega
    have H6 := Lib.hid h6
    obtain ⟨a, c, rfl⟩ := h6.slice_inv
    have H7 := Lib.hid h7
    obtain ⟨a7, c7, rfl⟩ := h7.slice_inv
    obtain ⟨xl, hxl⟩ : ∃ z, x.l = z := ⟨_, rfl⟩
    rw [hxl] at H6 hN2 hlen ⊢
    obtain ⟨xa, hxa⟩ : ∃ z, x.arms = z := ⟨_, rfl⟩
    rw [hxa] at H7 hN2 hlen7 ⊢
    have hl7 : xa.length ≤ 1048576 := by omega
    have hl6 : xl.length ≤ 1048576 := by omega
    clear hxl hus h6 hsz hlen hN hs hxa h7 hlen7
    by_cases hd : 200 < dep
    · have d1 : decide (200 < dep) = true := decide_eq_true hd
      go_enter Tryz.func9, Tryz.ntmps9
      go_wp2
      go_ret
      exact numb _ _ _ (by (repeat (with_reducible first | exact Below.refl _ _ | refine Below.setCell ?_ ?_ _ | refine Below.alloc ?_ ?_ _ | refine Below.drewN ?_ _ | refine Below.drew ?_)) <;> first | omega | (simp; omega) | (simp; done))
    have d1 : decide (200 < dep) = false := decide_eq_false hd
    clear hd
    go_enter Tryz.func9, Tryz.ntmps9
    go_wp2
    obtain ⟨bx, hbx⟩ : ∃ b : Array Value, #[.int .u8 x.kind, .string x.s, .int .i64 x.n, .int .i64 x.at_, .int .i64 x.line, .int .i64 x.col, .slice a xl.length c, .slice a7 xa.length c7] = b := ⟨_, rfl⟩
    have b6 : bx[6]? = some (.slice a xl.length c) := by rw [← hbx]; rfl
    have b7 : bx[7]? = some (.slice a7 xa.length c7) := by rw [← hbx]; rfl
    have HB0 := Lib.hid (OneB.mk' w bx 28)
    obtain ⟨W0, hW0⟩ : ∃ W, w.alloc (.cells bx 28) = W := ⟨_, rfl⟩
    rw [hW0] at HB0
    rw [hbx, hW0]
    clear hbx hW0
    go_loopw [5, 6] (fun ua uk wr => ∃ (k : Nat) (z : Int), k ≤ xl.length ∧ uk = .int .i64 k ∧ ua = .int .i64 z ∧ Hid (OneB w wr bx 28)) (fun _ u _ => xl.length - (intOf u).toNat)
    case atStart => exact ⟨0, _, Nat.zero_le _, rfl, rfl, HB0⟩
    case round =>
      obtain ⟨wo, rfl⟩ : ∃ z, z = wr := ⟨_, rfl⟩
      obtain ⟨k, z, hk, rfl, rfl, HB⟩ := hrel
      have hbel := HB.out.bel
      have hszo := hbel.size
      have x6 := (HB.out.x.cell 6).trans b6
      by_cases hltx : k < xl.length
      · have e1 : decide ((k : Int) < (xl.length : Int)) = true := decide_eq_true (by omega)
        have e1' : decide (k < xl.length) = true := decide_eq_true hltx
        by_cases hz : z ≤ 9000
        · have z1 : decide (z ≤ 9000) = true := decide_eq_true hz
          clear hz
          obtain ⟨blx, offx, cpx, usx, hvx, hbx, hcx, hcellx, hux⟩ := H6.out.elem SExpr.d_len rfl k hltx (by omega)
          injection hvx with hax hnx hcapx
          subst hax hcapx
          have HC := Lib.hid (fun (W : World) (hW : Below w.heap.size w W) (dd : Int) => IH.out xl[k] usx dd W (by have := SExpr.sizes_get xl k hltx; omega) (by have := SExpr.sizes_get xl k hltx; omega) ((hux.keep hW).mono hW.size))
          obtain ⟨v6x, v7x, rfl, g6x, g7x, -⟩ := SExpr.cells hux
          obtain ⟨a6x, d6x, rfl⟩ := g6x.slice_inv
          obtain ⟨a7x, d7x, rfl⟩ := g7x.slice_inv
          have cx0 := (hbel.cell (p := ⟨blx, offx + k * 8, none⟩) hbx).trans (hcellx 0 _ rfl)
          have cx1 := (hbel.cell (p := ⟨blx, offx + k * 8 + 1, none⟩) hbx).trans (hcellx 1 _ rfl)
          have cx2 := (hbel.cell (p := ⟨blx, offx + k * 8 + 2, none⟩) hbx).trans (hcellx 2 _ rfl)
          have cx3 := (hbel.cell (p := ⟨blx, offx + k * 8 + 3, none⟩) hbx).trans (hcellx 3 _ rfl)
          have cx4 := (hbel.cell (p := ⟨blx, offx + k * 8 + 4, none⟩) hbx).trans (hcellx 4 _ rfl)
          have cx5 := (hbel.cell (p := ⟨blx, offx + k * 8 + 5, none⟩) hbx).trans (hcellx 5 _ rfl)
          have cx6 := (hbel.cell (p := ⟨blx, offx + k * 8 + 6, none⟩) hbx).trans (hcellx 6 _ rfl)
          have cx7 := (hbel.cell (p := ⟨blx, offx + k * 8 + 7, none⟩) hbx).trans (hcellx 7 _ rfl)
          have i0 : (0 : Int) ≤ (k : Int) := by omega
          have i1 : (k : Int) < (xl.length : Int) := by omega
          clear hcellx hux g6x g7x
          go_wp2_with fail
          refine (HC.out _ hbel _).mono ?_
          rintro e w2 ⟨⟨y, rfl⟩, hb2⟩
          have HB2 := Lib.hid (HB.out.below hb2)
          clear cx0 cx1 cx2 cx3 cx4 cx5 cx6 cx7 hb2
          go_wp2
          go_roundw
          case rel => exact ⟨k + 1, _, hltx, by go_num, rfl, HB2⟩
          case measure => simp [intOf]; omega
        · have z1 : decide (z ≤ 9000) = false := decide_eq_false hz
          clear hz
          have HB0 := HB
          go_wp2
          clear x6 hbel hszo HB b6 H6
          obtain ⟨z0, hz0⟩ : ∃ y, z = y := ⟨_, rfl⟩
          rw [hz0]
          clear hz0
          go_loopw [5, 7] (fun ua uk wr => ∃ (k : Nat) (z : Int), k ≤ xa.length ∧ uk = .int .i64 k ∧ ua = .int .i64 z ∧ Hid (OneB w wr bx 28)) (fun _ u _ => xa.length - (intOf u).toNat)
          case atStart => exact ⟨0, z0, Nat.zero_le _, rfl, rfl, HB0⟩
          case round =>
            obtain ⟨wo, rfl⟩ : ∃ z, z = wr := ⟨_, rfl⟩
            obtain ⟨k, z, hk, rfl, rfl, HB⟩ := hrel
            have hbel := HB.out.bel
            have hszo := hbel.size
            have x7 := (HB.out.x.cell 7).trans b7
            by_cases hltx : k < xa.length
            · have e2 : decide ((k : Int) < (xa.length : Int)) = true := decide_eq_true (by omega)
              have e2' : decide (k < xa.length) = true := decide_eq_true hltx
              by_cases hz : z ≤ 9000
              · have z2 : decide (z ≤ 9000) = true := decide_eq_true hz
                clear hz
                obtain ⟨blx, offx, cpx, usx, hvx, hbx, hcx, hcellx, hux⟩ := H7.out.elem SArm.d_len rfl k hltx (by omega)
                injection hvx with hax hnx hcapx
                subst hax hcapx
                have hpe : xa[k].p.size ≤ 1048576 ∧ xa[k].e.size ≤ N ∧ xa[k].e.size ≤ 1048576 := by have := SArm.sizes_get xa k hltx; have := SArm.size_eq xa[k]; omega
                obtain ⟨upx, uex, rfl, hpx, hex⟩ := SArm.cells hux
                have HP := Lib.hid (fun (W : World) (hW : Below w.heap.size w W) (dd : Int) => rsizePat_any _ xa[k].p upx dd W (Nat.le_refl _) hpe.1 ((hpx.keep hW).mono hW.size))
                have HC := Lib.hid (fun (W : World) (hW : Below w.heap.size w W) (dd : Int) => IH.out xa[k].e uex dd W hpe.2.1 hpe.2.2 ((hex.keep hW).mono hW.size))
                obtain ⟨v6px, rfl, g6px, -⟩ := SPat.cells hpx
                obtain ⟨a6px, d6px, rfl⟩ := g6px.slice_inv
                obtain ⟨v6ex, v7ex, rfl, g6ex, g7ex, -⟩ := SExpr.cells hex
                obtain ⟨a6ex, d6ex, rfl⟩ := g6ex.slice_inv
                obtain ⟨a7ex, d7ex, rfl⟩ := g7ex.slice_inv
                have cx0 := (hbel.cell (p := ⟨blx, offx + k * 15, none⟩) hbx).trans (hcellx 0 _ rfl)
                have cx1 := (hbel.cell (p := ⟨blx, offx + k * 15 + 1, none⟩) hbx).trans (hcellx 1 _ rfl)
                have cx2 := (hbel.cell (p := ⟨blx, offx + k * 15 + 2, none⟩) hbx).trans (hcellx 2 _ rfl)
                have cx3 := (hbel.cell (p := ⟨blx, offx + k * 15 + 3, none⟩) hbx).trans (hcellx 3 _ rfl)
                have cx4 := (hbel.cell (p := ⟨blx, offx + k * 15 + 4, none⟩) hbx).trans (hcellx 4 _ rfl)
                have cx5 := (hbel.cell (p := ⟨blx, offx + k * 15 + 5, none⟩) hbx).trans (hcellx 5 _ rfl)
                have cx6 := (hbel.cell (p := ⟨blx, offx + k * 15 + 6, none⟩) hbx).trans (hcellx 6 _ rfl)
                have cx7 := (hbel.cell (p := ⟨blx, offx + k * 15 + 7, none⟩) hbx).trans (hcellx 7 _ rfl)
                have cx8 := (hbel.cell (p := ⟨blx, offx + k * 15 + 8, none⟩) hbx).trans (hcellx 8 _ rfl)
                have cx9 := (hbel.cell (p := ⟨blx, offx + k * 15 + 9, none⟩) hbx).trans (hcellx 9 _ rfl)
                have cx10 := (hbel.cell (p := ⟨blx, offx + k * 15 + 10, none⟩) hbx).trans (hcellx 10 _ rfl)
                have cx11 := (hbel.cell (p := ⟨blx, offx + k * 15 + 11, none⟩) hbx).trans (hcellx 11 _ rfl)
                have cx12 := (hbel.cell (p := ⟨blx, offx + k * 15 + 12, none⟩) hbx).trans (hcellx 12 _ rfl)
                have cx13 := (hbel.cell (p := ⟨blx, offx + k * 15 + 13, none⟩) hbx).trans (hcellx 13 _ rfl)
                have cx14 := (hbel.cell (p := ⟨blx, offx + k * 15 + 14, none⟩) hbx).trans (hcellx 14 _ rfl)
                generalize xa[k].p.kind = g0 at HP cx0
                generalize xa[k].p.s = g1 at HP cx1
                generalize xa[k].p.n = g2 at HP cx2
                generalize xa[k].p.at_ = g3 at HP cx3
                generalize xa[k].p.line = g4 at HP cx4
                generalize xa[k].p.col = g5 at HP cx5
                generalize xa[k].p.l.length = g6 at HP cx6
                generalize xa[k].e.kind = g7 at HC cx7
                generalize xa[k].e.s = g8 at HC cx8
                generalize xa[k].e.n = g9 at HC cx9
                generalize xa[k].e.at_ = g10 at HC cx10
                generalize xa[k].e.line = g11 at HC cx11
                generalize xa[k].e.col = g12 at HC cx12
                generalize xa[k].e.l.length = g13 at HC cx13
                generalize xa[k].e.arms.length = g14 at HC cx14
                have hlo : w.heap.size < wo.heap.size := HB.out.x.lt
                have hlb : blx < wo.heap.size := by omega
                have HF2 := Lib.hid (fun (V : World) (hV : Below wo.heap.size wo V) => (⟨(hV.cell (p := ⟨w.heap.size, 7, none⟩) hlo).trans x7, (hV.cell (p := ⟨blx, offx + k * 15, none⟩) hlb).trans cx0, (hV.cell (p := ⟨blx, offx + k * 15 + 1, none⟩) hlb).trans cx1, (hV.cell (p := ⟨blx, offx + k * 15 + 2, none⟩) hlb).trans cx2, (hV.cell (p := ⟨blx, offx + k * 15 + 3, none⟩) hlb).trans cx3, (hV.cell (p := ⟨blx, offx + k * 15 + 4, none⟩) hlb).trans cx4, (hV.cell (p := ⟨blx, offx + k * 15 + 5, none⟩) hlb).trans cx5, (hV.cell (p := ⟨blx, offx + k * 15 + 6, none⟩) hlb).trans cx6, (hV.cell (p := ⟨blx, offx + k * 15 + 7, none⟩) hlb).trans cx7, (hV.cell (p := ⟨blx, offx + k * 15 + 8, none⟩) hlb).trans cx8, (hV.cell (p := ⟨blx, offx + k * 15 + 9, none⟩) hlb).trans cx9, (hV.cell (p := ⟨blx, offx + k * 15 + 10, none⟩) hlb).trans cx10, (hV.cell (p := ⟨blx, offx + k * 15 + 11, none⟩) hlb).trans cx11, (hV.cell (p := ⟨blx, offx + k * 15 + 12, none⟩) hlb).trans cx12, (hV.cell (p := ⟨blx, offx + k * 15 + 13, none⟩) hlb).trans cx13, (hV.cell (p := ⟨blx, offx + k * 15 + 14, none⟩) hlb).trans cx14⟩ : V.cell? ⟨w.heap.size, 7, none⟩ = some (.slice (some ⟨blx, offx, none⟩) xa.length c7) ∧ V.cell? ⟨blx, offx + k * 15, none⟩ = some (.int .u8 g0) ∧ V.cell? ⟨blx, offx + k * 15 + 1, none⟩ = some (.string g1) ∧ V.cell? ⟨blx, offx + k * 15 + 2, none⟩ = some (.int .i64 g2) ∧ V.cell? ⟨blx, offx + k * 15 + 3, none⟩ = some (.int .i64 g3) ∧ V.cell? ⟨blx, offx + k * 15 + 4, none⟩ = some (.int .i64 g4) ∧ V.cell? ⟨blx, offx + k * 15 + 5, none⟩ = some (.int .i64 g5) ∧ V.cell? ⟨blx, offx + k * 15 + 6, none⟩ = some (.slice a6px g6 d6px) ∧ V.cell? ⟨blx, offx + k * 15 + 7, none⟩ = some (.int .u8 g7) ∧ V.cell? ⟨blx, offx + k * 15 + 8, none⟩ = some (.string g8) ∧ V.cell? ⟨blx, offx + k * 15 + 9, none⟩ = some (.int .i64 g9) ∧ V.cell? ⟨blx, offx + k * 15 + 10, none⟩ = some (.int .i64 g10) ∧ V.cell? ⟨blx, offx + k * 15 + 11, none⟩ = some (.int .i64 g11) ∧ V.cell? ⟨blx, offx + k * 15 + 12, none⟩ = some (.int .i64 g12) ∧ V.cell? ⟨blx, offx + k * 15 + 13, none⟩ = some (.slice a6ex g13 d6ex) ∧ V.cell? ⟨blx, offx + k * 15 + 14, none⟩ = some (.slice a7ex g14 d7ex)))
                have HFIN := Lib.hid (fun (V : World) (hV : Below wo.heap.size wo V) => hbel.trans (hV.mono hszo))
                have HP' := Lib.hid (fun (V : World) (hV : Below wo.heap.size wo V) (dd : Int) => HP.out V (HFIN.out V hV) dd)
                have HC' := Lib.hid (fun (V : World) (hV : Below wo.heap.size wo V) (dd : Int) => HC.out V (HFIN.out V hV) dd)
                have i0 : (0 : Int) ≤ (k : Int) := by omega
                have i1 : (k : Int) < (xa.length : Int) := by omega
                clear hcellx hux HP HC hpe g6px g6ex g7ex hpx hex
                go_upto_region 11 with fail
                go_region_held3 (fun w' => (w'.cell? ⟨w.heap.size, 7, none⟩ = some (.slice (some ⟨blx, offx, none⟩) xa.length c7) ∧ w'.cell? ⟨blx, offx + k * 15, none⟩ = some (.int .u8 g0) ∧ w'.cell? ⟨blx, offx + k * 15 + 1, none⟩ = some (.string g1) ∧ w'.cell? ⟨blx, offx + k * 15 + 2, none⟩ = some (.int .i64 g2) ∧ w'.cell? ⟨blx, offx + k * 15 + 3, none⟩ = some (.int .i64 g3) ∧ w'.cell? ⟨blx, offx + k * 15 + 4, none⟩ = some (.int .i64 g4) ∧ w'.cell? ⟨blx, offx + k * 15 + 5, none⟩ = some (.int .i64 g5) ∧ w'.cell? ⟨blx, offx + k * 15 + 6, none⟩ = some (.slice a6px g6 d6px) ∧ w'.cell? ⟨blx, offx + k * 15 + 7, none⟩ = some (.int .u8 g7) ∧ w'.cell? ⟨blx, offx + k * 15 + 8, none⟩ = some (.string g8) ∧ w'.cell? ⟨blx, offx + k * 15 + 9, none⟩ = some (.int .i64 g9) ∧ w'.cell? ⟨blx, offx + k * 15 + 10, none⟩ = some (.int .i64 g10) ∧ w'.cell? ⟨blx, offx + k * 15 + 11, none⟩ = some (.int .i64 g11) ∧ w'.cell? ⟨blx, offx + k * 15 + 12, none⟩ = some (.int .i64 g12) ∧ w'.cell? ⟨blx, offx + k * 15 + 13, none⟩ = some (.slice a6ex g13 d6ex) ∧ w'.cell? ⟨blx, offx + k * 15 + 14, none⟩ = some (.slice a7ex g14 d7ex)) ∧ Below wo.heap.size wo w') (first | assumption | exact ⟨⟨x7, cx0, cx1, cx2, cx3, cx4, cx5, cx6, cx7, cx8, cx9, cx10, cx11, cx12, cx13, cx14⟩, Below.refl _ _⟩ | exact keepB0 HF2.out (Below.refl _ _).drew | exact keepB HF2.out ‹_› ‹Below _ _ _›) (first | (go_at_call 27; refine (HP'.out _ (And.right ‹_ ∧ Below wo.heap.size wo _›) _).mono ?_; rintro _ w5 ⟨⟨y1, rfl⟩, hb5⟩) | (go_at_call 9; refine (HC'.out _ (And.right ‹_ ∧ Below wo.heap.size wo _›) _).mono ?_; rintro _ w5 ⟨⟨y2, rfl⟩, hb5⟩))
                all_goals
                  go_wp2
                  go_roundw
                  case rel => exact ⟨k + 1, _, hltx, by go_num, rfl, Lib.hid (HB.out.below (And.right ‹_ ∧ Below wo.heap.size wo _›))⟩
                  case measure => simp [intOf]; omega
              · have z2 : decide (z ≤ 9000) = false := decide_eq_false hz
                clear hz
                go_wp2
                go_ret
                exact numb _ _ _ hbel
            · have e2 : decide ((k : Int) < (xa.length : Int)) = false := decide_eq_false (by omega)
              have e2' : decide (k < xa.length) = false := decide_eq_false (by omega)
              clear hltx
              go_wp2
              go_ret
              exact numb _ _ _ hbel
      · have e1 : decide ((k : Int) < (xl.length : Int)) = false := decide_eq_false (by omega)
        have e1' : decide (k < xl.length) = false := decide_eq_false (by omega)
        clear hltx
        have HB0 := HB
        go_wp2
        clear x6 hbel hszo HB b6 H6
        obtain ⟨z0, hz0⟩ : ∃ y, z = y := ⟨_, rfl⟩
        rw [hz0]
        clear hz0
        go_loopw [5, 7] (fun ua uk wr => ∃ (k : Nat) (z : Int), k ≤ xa.length ∧ uk = .int .i64 k ∧ ua = .int .i64 z ∧ Hid (OneB w wr bx 28)) (fun _ u _ => xa.length - (intOf u).toNat)
        case atStart => exact ⟨0, z0, Nat.zero_le _, rfl, rfl, HB0⟩
        case round =>
          obtain ⟨wo, rfl⟩ : ∃ z, z = wr := ⟨_, rfl⟩
          obtain ⟨k, z, hk, rfl, rfl, HB⟩ := hrel
          have hbel := HB.out.bel
          have hszo := hbel.size
          have x7 := (HB.out.x.cell 7).trans b7
          by_cases hltx : k < xa.length
          · have e2 : decide ((k : Int) < (xa.length : Int)) = true := decide_eq_true (by omega)
            have e2' : decide (k < xa.length) = true := decide_eq_true hltx
            by_cases hz : z ≤ 9000
            · have z2 : decide (z ≤ 9000) = true := decide_eq_true hz
              clear hz
              obtain ⟨blx, offx, cpx, usx, hvx, hbx, hcx, hcellx, hux⟩ := H7.out.elem SArm.d_len rfl k hltx (by omega)
              injection hvx with hax hnx hcapx
              subst hax hcapx
              have hpe : xa[k].p.size ≤ 1048576 ∧ xa[k].e.size ≤ N ∧ xa[k].e.size ≤ 1048576 := by have := SArm.sizes_get xa k hltx; have := SArm.size_eq xa[k]; omega
              obtain ⟨upx, uex, rfl, hpx, hex⟩ := SArm.cells hux
              have HP := Lib.hid (fun (W : World) (hW : Below w.heap.size w W) (dd : Int) => rsizePat_any _ xa[k].p upx dd W (Nat.le_refl _) hpe.1 ((hpx.keep hW).mono hW.size))
              have HC := Lib.hid (fun (W : World) (hW : Below w.heap.size w W) (dd : Int) => IH.out xa[k].e uex dd W hpe.2.1 hpe.2.2 ((hex.keep hW).mono hW.size))
              obtain ⟨v6px, rfl, g6px, -⟩ := SPat.cells hpx
              obtain ⟨a6px, d6px, rfl⟩ := g6px.slice_inv
              obtain ⟨v6ex, v7ex, rfl, g6ex, g7ex, -⟩ := SExpr.cells hex
              obtain ⟨a6ex, d6ex, rfl⟩ := g6ex.slice_inv
              obtain ⟨a7ex, d7ex, rfl⟩ := g7ex.slice_inv
              have cx0 := (hbel.cell (p := ⟨blx, offx + k * 15, none⟩) hbx).trans (hcellx 0 _ rfl)
              have cx1 := (hbel.cell (p := ⟨blx, offx + k * 15 + 1, none⟩) hbx).trans (hcellx 1 _ rfl)
              have cx2 := (hbel.cell (p := ⟨blx, offx + k * 15 + 2, none⟩) hbx).trans (hcellx 2 _ rfl)
              have cx3 := (hbel.cell (p := ⟨blx, offx + k * 15 + 3, none⟩) hbx).trans (hcellx 3 _ rfl)
              have cx4 := (hbel.cell (p := ⟨blx, offx + k * 15 + 4, none⟩) hbx).trans (hcellx 4 _ rfl)
              have cx5 := (hbel.cell (p := ⟨blx, offx + k * 15 + 5, none⟩) hbx).trans (hcellx 5 _ rfl)
              have cx6 := (hbel.cell (p := ⟨blx, offx + k * 15 + 6, none⟩) hbx).trans (hcellx 6 _ rfl)
              have cx7 := (hbel.cell (p := ⟨blx, offx + k * 15 + 7, none⟩) hbx).trans (hcellx 7 _ rfl)
              have cx8 := (hbel.cell (p := ⟨blx, offx + k * 15 + 8, none⟩) hbx).trans (hcellx 8 _ rfl)
              have cx9 := (hbel.cell (p := ⟨blx, offx + k * 15 + 9, none⟩) hbx).trans (hcellx 9 _ rfl)
              have cx10 := (hbel.cell (p := ⟨blx, offx + k * 15 + 10, none⟩) hbx).trans (hcellx 10 _ rfl)
              have cx11 := (hbel.cell (p := ⟨blx, offx + k * 15 + 11, none⟩) hbx).trans (hcellx 11 _ rfl)
              have cx12 := (hbel.cell (p := ⟨blx, offx + k * 15 + 12, none⟩) hbx).trans (hcellx 12 _ rfl)
              have cx13 := (hbel.cell (p := ⟨blx, offx + k * 15 + 13, none⟩) hbx).trans (hcellx 13 _ rfl)
              have cx14 := (hbel.cell (p := ⟨blx, offx + k * 15 + 14, none⟩) hbx).trans (hcellx 14 _ rfl)
              generalize xa[k].p.kind = g0 at HP cx0
              generalize xa[k].p.s = g1 at HP cx1
              generalize xa[k].p.n = g2 at HP cx2
              generalize xa[k].p.at_ = g3 at HP cx3
              generalize xa[k].p.line = g4 at HP cx4
              generalize xa[k].p.col = g5 at HP cx5
              generalize xa[k].p.l.length = g6 at HP cx6
              generalize xa[k].e.kind = g7 at HC cx7
              generalize xa[k].e.s = g8 at HC cx8
              generalize xa[k].e.n = g9 at HC cx9
              generalize xa[k].e.at_ = g10 at HC cx10
              generalize xa[k].e.line = g11 at HC cx11
              generalize xa[k].e.col = g12 at HC cx12
              generalize xa[k].e.l.length = g13 at HC cx13
              generalize xa[k].e.arms.length = g14 at HC cx14
              have hlo : w.heap.size < wo.heap.size := HB.out.x.lt
              have hlb : blx < wo.heap.size := by omega
              have HF2 := Lib.hid (fun (V : World) (hV : Below wo.heap.size wo V) => (⟨(hV.cell (p := ⟨w.heap.size, 7, none⟩) hlo).trans x7, (hV.cell (p := ⟨blx, offx + k * 15, none⟩) hlb).trans cx0, (hV.cell (p := ⟨blx, offx + k * 15 + 1, none⟩) hlb).trans cx1, (hV.cell (p := ⟨blx, offx + k * 15 + 2, none⟩) hlb).trans cx2, (hV.cell (p := ⟨blx, offx + k * 15 + 3, none⟩) hlb).trans cx3, (hV.cell (p := ⟨blx, offx + k * 15 + 4, none⟩) hlb).trans cx4, (hV.cell (p := ⟨blx, offx + k * 15 + 5, none⟩) hlb).trans cx5, (hV.cell (p := ⟨blx, offx + k * 15 + 6, none⟩) hlb).trans cx6, (hV.cell (p := ⟨blx, offx + k * 15 + 7, none⟩) hlb).trans cx7, (hV.cell (p := ⟨blx, offx + k * 15 + 8, none⟩) hlb).trans cx8, (hV.cell (p := ⟨blx, offx + k * 15 + 9, none⟩) hlb).trans cx9, (hV.cell (p := ⟨blx, offx + k * 15 + 10, none⟩) hlb).trans cx10, (hV.cell (p := ⟨blx, offx + k * 15 + 11, none⟩) hlb).trans cx11, (hV.cell (p := ⟨blx, offx + k * 15 + 12, none⟩) hlb).trans cx12, (hV.cell (p := ⟨blx, offx + k * 15 + 13, none⟩) hlb).trans cx13, (hV.cell (p := ⟨blx, offx + k * 15 + 14, none⟩) hlb).trans cx14⟩ : V.cell? ⟨w.heap.size, 7, none⟩ = some (.slice (some ⟨blx, offx, none⟩) xa.length c7) ∧ V.cell? ⟨blx, offx + k * 15, none⟩ = some (.int .u8 g0) ∧ V.cell? ⟨blx, offx + k * 15 + 1, none⟩ = some (.string g1) ∧ V.cell? ⟨blx, offx + k * 15 + 2, none⟩ = some (.int .i64 g2) ∧ V.cell? ⟨blx, offx + k * 15 + 3, none⟩ = some (.int .i64 g3) ∧ V.cell? ⟨blx, offx + k * 15 + 4, none⟩ = some (.int .i64 g4) ∧ V.cell? ⟨blx, offx + k * 15 + 5, none⟩ = some (.int .i64 g5) ∧ V.cell? ⟨blx, offx + k * 15 + 6, none⟩ = some (.slice a6px g6 d6px) ∧ V.cell? ⟨blx, offx + k * 15 + 7, none⟩ = some (.int .u8 g7) ∧ V.cell? ⟨blx, offx + k * 15 + 8, none⟩ = some (.string g8) ∧ V.cell? ⟨blx, offx + k * 15 + 9, none⟩ = some (.int .i64 g9) ∧ V.cell? ⟨blx, offx + k * 15 + 10, none⟩ = some (.int .i64 g10) ∧ V.cell? ⟨blx, offx + k * 15 + 11, none⟩ = some (.int .i64 g11) ∧ V.cell? ⟨blx, offx + k * 15 + 12, none⟩ = some (.int .i64 g12) ∧ V.cell? ⟨blx, offx + k * 15 + 13, none⟩ = some (.slice a6ex g13 d6ex) ∧ V.cell? ⟨blx, offx + k * 15 + 14, none⟩ = some (.slice a7ex g14 d7ex)))
              have HFIN := Lib.hid (fun (V : World) (hV : Below wo.heap.size wo V) => hbel.trans (hV.mono hszo))
              have HP' := Lib.hid (fun (V : World) (hV : Below wo.heap.size wo V) (dd : Int) => HP.out V (HFIN.out V hV) dd)
              have HC' := Lib.hid (fun (V : World) (hV : Below wo.heap.size wo V) (dd : Int) => HC.out V (HFIN.out V hV) dd)
              have i0 : (0 : Int) ≤ (k : Int) := by omega
              have i1 : (k : Int) < (xa.length : Int) := by omega
              clear hcellx hux HP HC hpe g6px g6ex g7ex hpx hex
              go_upto_region 11 with fail
              go_region_held3 (fun w' => (w'.cell? ⟨w.heap.size, 7, none⟩ = some (.slice (some ⟨blx, offx, none⟩) xa.length c7) ∧ w'.cell? ⟨blx, offx + k * 15, none⟩ = some (.int .u8 g0) ∧ w'.cell? ⟨blx, offx + k * 15 + 1, none⟩ = some (.string g1) ∧ w'.cell? ⟨blx, offx + k * 15 + 2, none⟩ = some (.int .i64 g2) ∧ w'.cell? ⟨blx, offx + k * 15 + 3, none⟩ = some (.int .i64 g3) ∧ w'.cell? ⟨blx, offx + k * 15 + 4, none⟩ = some (.int .i64 g4) ∧ w'.cell? ⟨blx, offx + k * 15 + 5, none⟩ = some (.int .i64 g5) ∧ w'.cell? ⟨blx, offx + k * 15 + 6, none⟩ = some (.slice a6px g6 d6px) ∧ w'.cell? ⟨blx, offx + k * 15 + 7, none⟩ = some (.int .u8 g7) ∧ w'.cell? ⟨blx, offx + k * 15 + 8, none⟩ = some (.string g8) ∧ w'.cell? ⟨blx, offx + k * 15 + 9, none⟩ = some (.int .i64 g9) ∧ w'.cell? ⟨blx, offx + k * 15 + 10, none⟩ = some (.int .i64 g10) ∧ w'.cell? ⟨blx, offx + k * 15 + 11, none⟩ = some (.int .i64 g11) ∧ w'.cell? ⟨blx, offx + k * 15 + 12, none⟩ = some (.int .i64 g12) ∧ w'.cell? ⟨blx, offx + k * 15 + 13, none⟩ = some (.slice a6ex g13 d6ex) ∧ w'.cell? ⟨blx, offx + k * 15 + 14, none⟩ = some (.slice a7ex g14 d7ex)) ∧ Below wo.heap.size wo w') (first | assumption | exact ⟨⟨x7, cx0, cx1, cx2, cx3, cx4, cx5, cx6, cx7, cx8, cx9, cx10, cx11, cx12, cx13, cx14⟩, Below.refl _ _⟩ | exact keepB0 HF2.out (Below.refl _ _).drew | exact keepB HF2.out ‹_› ‹Below _ _ _›) (first | (go_at_call 27; refine (HP'.out _ (And.right ‹_ ∧ Below wo.heap.size wo _›) _).mono ?_; rintro _ w5 ⟨⟨y1, rfl⟩, hb5⟩) | (go_at_call 9; refine (HC'.out _ (And.right ‹_ ∧ Below wo.heap.size wo _›) _).mono ?_; rintro _ w5 ⟨⟨y2, rfl⟩, hb5⟩))
              all_goals
                go_wp2
                go_roundw
                case rel => exact ⟨k + 1, _, hltx, by go_num, rfl, Lib.hid (HB.out.below (And.right ‹_ ∧ Below wo.heap.size wo _›))⟩
                case measure => simp [intOf]; omega
            · have z2 : decide (z ≤ 9000) = false := decide_eq_false hz
              clear hz
              go_wp2
              go_ret
              exact numb _ _ _ hbel
          · have e2 : decide ((k : Int) < (xa.length : Int)) = false := decide_eq_false (by omega)
            have e2' : decide (k < xa.length) = false := decide_eq_false (by omega)
            clear hltx
            go_wp2
            go_ret
            exact numb _ _ _ hbel
end Go.Proofs.YtnneooidkbhbeaaGreatDoor
/- The document's Size of declarations answers, whatever it answers. Written by gen_shm.py. -/
namespace Go.Proofs.YtnneooidkbhbeaaGreatDoor
open Go.RowKit

set_option maxRecDepth 100000 in
set_option maxHeartbeats 4000000 in
theorem rsizeAll_any (l : List SDecl) (v : Value) (w : World) (hl : DSmall l) (hr : Rd w w.heap.size v (.list 16 l.length (l.flatMap SDecl.d))) :
    Calls Tryz.prog 8 #[v] w (Num w) := by
  obtain ⟨a, cap, rfl⟩ := hr.slice_inv
  have hn := hl.n
  have HD := Lib.hid hl.d
  have HR := Lib.hid hr
  clear hl hr
  go_enter Tryz.func8, Tryz.ntmps8
  go_wp2
  go_loopw [3, 4] (fun ua uk wr => ∃ (k : Nat) (z : Int), k ≤ l.length ∧ uk = .int .i64 k ∧ ua = .int .i64 z ∧ Below w.heap.size w wr) (fun _ u _ => l.length - (intOf u).toNat)
  case atStart => exact ⟨0, 0, Nat.zero_le _, rfl, rfl, Below.refl _ _⟩
  case round =>
    obtain ⟨wo, rfl⟩ : ∃ z, z = wr := ⟨_, rfl⟩
    obtain ⟨k, z, hk, rfl, rfl, hbel⟩ := hrel
    have hszo := hbel.size
    by_cases hltx : k < l.length
    · have e1 : decide ((k : Int) < (l.length : Int)) = true := decide_eq_true (by omega)
      have k0 : (0 : Int) ≤ (k : Int) := by omega
      have k1 : (k : Int) < (l.length : Int) := by omega
      obtain ⟨blx, offx, cpx, usx, hvx, hbx, hcx, hcellx, hux⟩ := HR.out.elem SDecl.d_len rfl k hltx (by omega)
      injection hvx with hax hnx hcapx
      subst hax hcapx
      have hsm := HD.out k hltx
      have HSM := Lib.hid hsm
      have hnp := hsm.np
      have hnc := hsm.nc
      obtain ⟨v5x, v6x, uex, rfl, g5x, g6x, hex, -, -⟩ := SDecl.cells hux
      have HC := Lib.hid (fun (W : World) (hW : Below w.heap.size w W) (dd : Int) => rsizeExpr_any _ l[k].e uex dd W (Nat.le_refl _) hsm.e ((hex.keep hW).mono hW.size))
      have G5 := Lib.hid g5x
      have G6 := Lib.hid g6x
      obtain ⟨a5x, d5x, rfl⟩ := g5x.slice_inv
      obtain ⟨a6x, d6x, rfl⟩ := g6x.slice_inv
      obtain ⟨v6ex, v7ex, rfl, g6ex, g7ex, -⟩ := SExpr.cells hex
      obtain ⟨a6ex, d6ex, rfl⟩ := g6ex.slice_inv
      obtain ⟨a7ex, d7ex, rfl⟩ := g7ex.slice_inv
      have cx1 := (hbel.cell (p := ⟨blx, offx + k * 16 + 1, none⟩) hbx).trans (hcellx 1 _ rfl)
      have cx5 := (hbel.cell (p := ⟨blx, offx + k * 16 + 5, none⟩) hbx).trans (hcellx 5 _ rfl)
      have cx6 := (hbel.cell (p := ⟨blx, offx + k * 16 + 6, none⟩) hbx).trans (hcellx 6 _ rfl)
      have cx8 := (hbel.cell (p := ⟨blx, offx + k * 16 + 8, none⟩) hbx).trans (hcellx 8 _ rfl)
      have cx9 := (hbel.cell (p := ⟨blx, offx + k * 16 + 9, none⟩) hbx).trans (hcellx 9 _ rfl)
      have cx10 := (hbel.cell (p := ⟨blx, offx + k * 16 + 10, none⟩) hbx).trans (hcellx 10 _ rfl)
      have cx11 := (hbel.cell (p := ⟨blx, offx + k * 16 + 11, none⟩) hbx).trans (hcellx 11 _ rfl)
      have cx12 := (hbel.cell (p := ⟨blx, offx + k * 16 + 12, none⟩) hbx).trans (hcellx 12 _ rfl)
      have cx13 := (hbel.cell (p := ⟨blx, offx + k * 16 + 13, none⟩) hbx).trans (hcellx 13 _ rfl)
      have cx14 := (hbel.cell (p := ⟨blx, offx + k * 16 + 14, none⟩) hbx).trans (hcellx 14 _ rfl)
      have cx15 := (hbel.cell (p := ⟨blx, offx + k * 16 + 15, none⟩) hbx).trans (hcellx 15 _ rfl)
      have HX5 := Lib.hid (fun (W : World) (hW : Below w.heap.size w W) => (hW.cell (p := ⟨blx, offx + k * 16 + 5, none⟩) hbx).trans (hcellx 5 _ rfl))
      have HX6 := Lib.hid (fun (W : World) (hW : Below w.heap.size w W) => (hW.cell (p := ⟨blx, offx + k * 16 + 6, none⟩) hbx).trans (hcellx 6 _ rfl))
      obtain ⟨cl, hcl⟩ : ∃ y, l[k].cons = y := ⟨_, rfl⟩
      obtain ⟨pl, hpl⟩ : ∃ y, l[k].params = y := ⟨_, rfl⟩
      have HCS := Lib.hid (show ∀ i (h : i < cl.length), cl[i].Small by subst hcl; exact HSM.out.c)
      rw [hcl] at G6 hnc cx6 HX6
      rw [hpl] at G5 hnp cx5 HX5
      clear hcellx hux g5x g6x hex g6ex g7ex hsm HSM hcl hpl
      go_wp2_with fail
      go_upto_region 5 with fail
      go_cut [3] (fun v3 wx => ∃ z3 : Int, v3 = .int .i64 z3 ∧ Below w.heap.size w wx)
      case first =>
        have hlb : blx < wo.heap.size := by omega
        have HF2 := Lib.hid (fun (V : World) (hV : Below wo.heap.size wo V) => (⟨(hV.cell (p := ⟨blx, offx + k * 16 + 1, none⟩) hlb).trans cx1, (hV.cell (p := ⟨blx, offx + k * 16 + 5, none⟩) hlb).trans cx5, (hV.cell (p := ⟨blx, offx + k * 16 + 8, none⟩) hlb).trans cx8, (hV.cell (p := ⟨blx, offx + k * 16 + 9, none⟩) hlb).trans cx9, (hV.cell (p := ⟨blx, offx + k * 16 + 10, none⟩) hlb).trans cx10, (hV.cell (p := ⟨blx, offx + k * 16 + 11, none⟩) hlb).trans cx11, (hV.cell (p := ⟨blx, offx + k * 16 + 12, none⟩) hlb).trans cx12, (hV.cell (p := ⟨blx, offx + k * 16 + 13, none⟩) hlb).trans cx13, (hV.cell (p := ⟨blx, offx + k * 16 + 14, none⟩) hlb).trans cx14, (hV.cell (p := ⟨blx, offx + k * 16 + 15, none⟩) hlb).trans cx15⟩ : V.cell? ⟨blx, offx + k * 16 + 1, none⟩ = some (.string l[k].name) ∧ V.cell? ⟨blx, offx + k * 16 + 5, none⟩ = some (.slice a5x pl.length d5x) ∧ V.cell? ⟨blx, offx + k * 16 + 8, none⟩ = some (.int .u8 l[k].e.kind) ∧ V.cell? ⟨blx, offx + k * 16 + 9, none⟩ = some (.string l[k].e.s) ∧ V.cell? ⟨blx, offx + k * 16 + 10, none⟩ = some (.int .i64 l[k].e.n) ∧ V.cell? ⟨blx, offx + k * 16 + 11, none⟩ = some (.int .i64 l[k].e.at_) ∧ V.cell? ⟨blx, offx + k * 16 + 12, none⟩ = some (.int .i64 l[k].e.line) ∧ V.cell? ⟨blx, offx + k * 16 + 13, none⟩ = some (.int .i64 l[k].e.col) ∧ V.cell? ⟨blx, offx + k * 16 + 14, none⟩ = some (.slice a6ex l[k].e.l.length d6ex) ∧ V.cell? ⟨blx, offx + k * 16 + 15, none⟩ = some (.slice a7ex l[k].e.arms.length d7ex)))
        have HFIN := Lib.hid (fun (V : World) (hV : Below wo.heap.size wo V) => hbel.trans (hV.mono hszo))
        have HC' := Lib.hid (fun (V : World) (hV : Below wo.heap.size wo V) (dd : Int) => HC.out V (HFIN.out V hV) dd)
        clear HC
        go_region_held3 (fun w' => (w'.cell? ⟨blx, offx + k * 16 + 1, none⟩ = some (.string l[k].name) ∧ w'.cell? ⟨blx, offx + k * 16 + 5, none⟩ = some (.slice a5x pl.length d5x) ∧ w'.cell? ⟨blx, offx + k * 16 + 8, none⟩ = some (.int .u8 l[k].e.kind) ∧ w'.cell? ⟨blx, offx + k * 16 + 9, none⟩ = some (.string l[k].e.s) ∧ w'.cell? ⟨blx, offx + k * 16 + 10, none⟩ = some (.int .i64 l[k].e.n) ∧ w'.cell? ⟨blx, offx + k * 16 + 11, none⟩ = some (.int .i64 l[k].e.at_) ∧ w'.cell? ⟨blx, offx + k * 16 + 12, none⟩ = some (.int .i64 l[k].e.line) ∧ w'.cell? ⟨blx, offx + k * 16 + 13, none⟩ = some (.int .i64 l[k].e.col) ∧ w'.cell? ⟨blx, offx + k * 16 + 14, none⟩ = some (.slice a6ex l[k].e.l.length d6ex) ∧ w'.cell? ⟨blx, offx + k * 16 + 15, none⟩ = some (.slice a7ex l[k].e.arms.length d7ex)) ∧ Below wo.heap.size wo w') (first | assumption | exact ⟨⟨cx1, cx5, cx8, cx9, cx10, cx11, cx12, cx13, cx14, cx15⟩, Below.refl _ _⟩ | exact keepB0 HF2.out (Below.refl _ _).drew | exact keepB HF2.out ‹_› ‹Below _ _ _›) (first | (go_at_call 9; refine (HC'.out _ (And.right ‹_ ∧ Below wo.heap.size wo _›) _).mono ?_; rintro _ w5 ⟨⟨y1, rfl⟩, hb5⟩))
        all_goals
          go_wp2
          go_meet
          exact ⟨_, rfl, HFIN.out _ (And.right ‹_ ∧ Below wo.heap.size wo _›)⟩
      obtain ⟨z3, rfl, hbe3⟩ := hcut
      obtain ⟨w3, hw3⟩ : ∃ W, W = wc := ⟨_, rfl⟩
      subst hw3
      clear cx1 cx5 cx6 cx8 cx9 cx10 cx11 cx12 cx13 cx14 cx15 HC
      have x5 := HX5.out w3 hbe3
      go_wp2_with fail
      go_loopw [3, 5] (fun ua uj wr => ∃ (j : Nat) (z : Int), j ≤ pl.length ∧ uj = .int .i64 j ∧ ua = .int .i64 z ∧ wr = w3) (fun _ u _ => pl.length - (intOf u).toNat)
      case atStart => exact ⟨0, _, Nat.zero_le _, rfl, rfl, rfl⟩
      case round =>
        obtain ⟨j, zj, hj, rfl, rfl, rfl⟩ := hrel
        by_cases hltj : j < pl.length
        · have e2 : decide ((j : Int) < (pl.length : Int)) = true := decide_eq_true (by omega)
          obtain ⟨b1, o1, cp1, q1, hb1, cell1⟩ := strAt G5.out j hltj hnp
          injection q1 with q1 _ q1'
          subst q1 q1'
          have cs := (hbe3.cell (p := ⟨b1, o1 + j, none⟩) hb1).trans cell1
          have j0 : (0 : Int) ≤ (j : Int) := by omega
          have j1 : (j : Int) < (pl.length : Int) := by omega
          clear cell1
          go_wp2
          go_roundw
          case rel => exact ⟨j + 1, _, hltj, by go_num, rfl, by first | rfl | trivial⟩
          case measure => simp [intOf]; omega
        · have e2 : decide ((j : Int) < (pl.length : Int)) = false := decide_eq_false (by omega)
          have e2' : decide (j < pl.length) = false := decide_eq_false (by omega)
          clear hltj hj
          have x6 := HX6.out _ hbe3
          go_wp2_with fail
          go_loopw [3, 6] (fun ua uj wr => ∃ (j : Nat) (z : Int), j ≤ cl.length ∧ uj = .int .i64 j ∧ ua = .int .i64 z ∧ Below w.heap.size w wr) (fun _ u _ => cl.length - (intOf u).toNat)
          case atStart => exact ⟨0, zj, Nat.zero_le _, rfl, rfl, hbe3⟩
          case round =>
            clear x5 x6 e2 e2'
            obtain ⟨wp, rfl⟩ : ∃ z, z = wr := ⟨_, rfl⟩
            obtain ⟨j, z3, hj, rfl, rfl, hbp⟩ := hrel
            have x6 := HX6.out _ hbp
            by_cases hltj : j < cl.length
            · have e3 : decide ((j : Int) < (cl.length : Int)) = true := decide_eq_true (by omega)
              obtain ⟨bly, offy, cpy, usy, hvy, hby, hcy, hcelly, huy⟩ := G6.out.elem SConD.d_len rfl j hltj (by omega)
              injection hvy with hay hny hcapy
              subst hay hcapy
              have hcs := HCS.out j hltj
              obtain ⟨v6y, rfl, g6y, -⟩ := SConD.cells huy
              have GF := Lib.hid g6y
              obtain ⟨a6y, d6y, rfl⟩ := g6y.slice_inv
              have cy0 := (hbp.cell (p := ⟨bly, offy + j * 5, none⟩) hby).trans (hcelly 0 _ rfl)
              have HY4 := Lib.hid (fun (W : World) (hW : Below w.heap.size w W) => (hW.cell (p := ⟨bly, offy + j * 5 + 4, none⟩) hby).trans (hcelly 4 _ rfl))
              obtain ⟨fl, hfl⟩ : ∃ y, cl[j].fields = y := ⟨_, rfl⟩
              have HFS := Lib.hid (show ∀ i (h : i < fl.length), fl[i].t.size ≤ 1048576 by subst hfl; exact hcs.f)
              have hnf : fl.length ≤ 1048576 := by rw [← hfl]; exact hcs.nf
              rw [hfl] at GF HY4
              have j0 : (0 : Int) ≤ (j : Int) := by omega
              have j1 : (j : Int) < (cl.length : Int) := by omega
              clear hcelly huy g6y hcs hfl
              have y4 := HY4.out _ hbp
              go_wp2_with fail
              go_loopw [3, 7] (fun ua uj wr => ∃ (i : Nat) (z : Int), i ≤ fl.length ∧ uj = .int .i64 i ∧ ua = .int .i64 z ∧ Below w.heap.size w wr) (fun _ u _ => fl.length - (intOf u).toNat)
              case atStart => exact ⟨0, _, Nat.zero_le _, rfl, rfl, hbp⟩
              case round =>
                clear x6 cy0 y4
                obtain ⟨wf, rfl⟩ : ∃ z, z = wr := ⟨_, rfl⟩
                obtain ⟨i, z4, hi, rfl, rfl, hbf⟩ := hrel
                have x6 := HX6.out _ hbf
                have y4 := HY4.out _ hbf
                by_cases hlti : i < fl.length
                · have e4 : decide ((i : Int) < (fl.length : Int)) = true := decide_eq_true (by omega)
                  obtain ⟨blf, offf, cpf, usf, hvf, hbf1, hcf, hcellf, huf⟩ := GF.out.elem SField.d_len rfl i hlti (by omega)
                  injection hvf with haf hnf' hcapf
                  subst haf hcapf
                  have hfs := HFS.out i hlti
                  obtain ⟨ut, rfl, ht, -⟩ := SField.cells huf
                  have HT := Lib.hid (fun (W : World) (hW : Below w.heap.size w W) (dd : Int) => rsizeTy_any _ fl[i].t ut dd W (Nat.le_refl _) hfs ((ht.keep hW).mono hW.size))
                  obtain ⟨v6t, rfl, h6t, -⟩ := STy.cells ht
                  obtain ⟨at6, ct6, rfl⟩ := h6t.slice_inv
                  have cf1 := (hbf.cell (p := ⟨blf, offf + i * 8 + 1, none⟩) hbf1).trans (hcellf 1 _ rfl)
                  have cf2 := (hbf.cell (p := ⟨blf, offf + i * 8 + 2, none⟩) hbf1).trans (hcellf 2 _ rfl)
                  have cf3 := (hbf.cell (p := ⟨blf, offf + i * 8 + 3, none⟩) hbf1).trans (hcellf 3 _ rfl)
                  have cf4 := (hbf.cell (p := ⟨blf, offf + i * 8 + 4, none⟩) hbf1).trans (hcellf 4 _ rfl)
                  have cf5 := (hbf.cell (p := ⟨blf, offf + i * 8 + 5, none⟩) hbf1).trans (hcellf 5 _ rfl)
                  have cf6 := (hbf.cell (p := ⟨blf, offf + i * 8 + 6, none⟩) hbf1).trans (hcellf 6 _ rfl)
                  have cf7 := (hbf.cell (p := ⟨blf, offf + i * 8 + 7, none⟩) hbf1).trans (hcellf 7 _ rfl)
                  have i0 : (0 : Int) ≤ (i : Int) := by omega
                  have i1 : (i : Int) < (fl.length : Int) := by omega
                  clear hcellf huf ht h6t hfs
                  go_wp2_with fail
                  refine (HT.out _ hbf _).mono ?_
                  rintro e w5 ⟨⟨y5, rfl⟩, hb5⟩
                  have hbe5 : Below w.heap.size w w5 := hbf.trans (hb5.mono hbf.size)
                  clear hb5 cf1 cf2 cf3 cf4 cf5 cf6 cf7
                  go_wp2
                  go_roundw
                  case rel => exact ⟨i + 1, _, hlti, by go_num, rfl, hbe5⟩
                  case measure => simp [intOf]; omega
                · have e4 : decide ((i : Int) < (fl.length : Int)) = false := decide_eq_false (by omega)
                  have e4' : decide (i < fl.length) = false := decide_eq_false (by omega)
                  clear hlti hi
                  go_wp2
                  go_roundw
                  case rel => exact ⟨j + 1, _, hltj, by go_num, rfl, hbf⟩
                  case measure => simp [intOf]; omega
            · have e3 : decide ((j : Int) < (cl.length : Int)) = false := decide_eq_false (by omega)
              have e3' : decide (j < cl.length) = false := decide_eq_false (by omega)
              clear hltj hj
              by_cases h9 : 9000 < z3
              · have n9 : decide (9000 < z3) = true := decide_eq_true h9
                clear h9
                go_wp2
                go_ret
                exact numb _ _ _ hbp
              · have n9 : decide (9000 < z3) = false := decide_eq_false h9
                clear h9
                go_wp2
                go_roundw
                case rel => exact ⟨k + 1, z3, hltx, by go_num, rfl, hbp⟩
                case measure => simp [intOf]; omega
    · have e1 : decide ((k : Int) < (l.length : Int)) = false := decide_eq_false (by omega)
      have e1' : decide (k < l.length) = false := decide_eq_false (by omega)
      go_wp2
      go_ret
      exact numb _ _ _ hbel
end Go.Proofs.YtnneooidkbhbeaaGreatDoor
/- Declarations that are handed in below the bound are small in all their parts; the opening of a list of declarations that a law is handed. -/
namespace Go.Proofs.YtnneooidkbhbeaaGreatDoor
open Go.RowKit Go.ChangeShapes Go.WideShapes

theorem swts_get {α : Type} (f : α → List D) : ∀ (l : List α) (i : Nat) (h : i < l.length), D.wts (f l[i]) ≤ D.wts (l.flatMap f)
  | [], i, h => by simp at h
  | x :: l, 0, h => by rw [List.flatMap_cons, wts_append]; simp
  | x :: l, i + 1, h => by
    have := swts_get f l i (by simpa using h)
    rw [List.flatMap_cons, wts_append]
    simp only [List.getElem_cons_succ]; omega
theorem swts_count {α : Type} (f : α → List D) (hf : ∀ x, 1 ≤ D.wts (f x)) : ∀ l : List α, l.length ≤ D.wts (l.flatMap f)
  | [] => by simp
  | x :: l => by
    have := swts_count f hf l
    have := hf x
    rw [List.flatMap_cons, wts_append, List.length_cons]; omega
theorem sfield_wts (x : SField) : D.wts x.d = 1 + D.wts x.t.d := by simp only [SField.d, D.wts, D.wt]
theorem sconD_wts (x : SConD) : D.wts x.d = x.name.size + 1 + (1 + (1 + (1 + (D.wts (x.fields.flatMap SField.d) + 1)))) := by
  rw [SConD.d_eq]; simp only [D.wts, D.wt]
theorem sdecl_wts (x : SDecl) : D.wts x.d = 1 + (x.name.size + 1 + (1 + (1 + (1 + (D.wts (x.params.flatMap fun s => [D.str s]) + 1 + (D.wts (x.cons.flatMap SConD.d) + 1 + (1 + 0))))))) + D.wts x.e.d := by
  unfold SDecl.d
  rw [wts_append]; simp only [D.wts, D.wt]
theorem sconD_small (x : SConD) (h : D.wts x.d ≤ 1048576) : x.Small := by
  have e := sconD_wts x
  refine ⟨?_, fun i hi => ?_⟩
  · have := swts_count SField.d (fun x => by rw [sfield_wts]; omega) x.fields; omega
  · have h1 := swts_get SField.d x.fields i hi
    have h2 := sfield_wts x.fields[i]
    have h3 := STy.size_wts x.fields[i].t
    omega
theorem sdecl_small (x : SDecl) (h : D.wts x.d ≤ 1048576) : x.Small := by
  have e := sdecl_wts x
  refine ⟨?_, ?_, ?_, fun i hi => ?_⟩
  · have := SExpr.size_wts x.e; omega
  · have := swts_count (fun s : ByteArray => [D.str s]) (fun s => by simp only [D.wts, D.wt]; omega) x.params; omega
  · have := swts_count SConD.d (fun x => by rw [sconD_wts]; omega) x.cons; omega
  · have h1 := swts_get SConD.d x.cons i hi
    exact sconD_small _ (by omega)
theorem decls_small (l : List SDecl) (h : D.wts (l.flatMap SDecl.d) ≤ 1048576) : DSmall l := by
  refine ⟨?_, fun i hi => ?_⟩
  · have := swts_count SDecl.d (fun x => by rw [sdecl_wts]; omega) l; omega
  · have h1 := swts_get SDecl.d l i hi
    exact sdecl_small _ (by omega)
def declTypes : List TypeId := [22, 40, 5, 9, 24, 3, 37, 38, 64, 62, 61, 56, 59, 57, 4, 28, 2, 25, 26, 71, 69, 67]
theorem declPlain : plainAll Tryz.prog declTypes = true := by kernel_rfl
set_option maxRecDepth 100000 in
/-- a list of declarations that is handed in: what it reads as -/
theorem open_decls {H : Type} {enc : TypeId × Value → H} {W : World} {base b0 : Nat} {r : Reach} {spare : Nat → Bool} {held : Bool} {v : Value} {d : DataW H} {p : List MemPlace}
    (hval : Value.okWide Tryz.prog W r b0 22 v) (h : DataW.Trod enc Tryz.prog W base spare held 22 v d p)
    (hlt : ∀ x ∈ p, x.block < W.heap.size) (hk : Rows.uptoBulk d ≤ 1048576) : ∃ l : List SDecl, DSmall l ∧ Rd W W.heap.size v (.list 16 l.length (l.flatMap SDecl.d)) := by
  obtain ⟨a0, n0, c0, rfl⟩ := okWide_slice (P := Tryz.prog) (w := W) (r := r) (base := b0) (t := 22) (v := v) Tryz.underlying22 hval
  obtain ⟨fuel, hf⟩ := h
  obtain ⟨ds, hr, hh, hw⟩ := rd_of_trod declTypes declPlain fuel _ _ (d, p) (List.mem_cons_self ..) hf hlt
  obtain ⟨l, rfl⟩ := hh.list_of (e := 40) (k := 16) (f := SDecl.d) (by kernel_rfl) (by kernel_rfl) SDecl.d_len (fun c _ h => has_SDecl h)
  obtain ⟨u, us, hus, h0, _⟩ := hr.cons_inv
  simp only [Value.cells, List.cons.injEq] at hus
  obtain ⟨rfl, _⟩ := hus
  have hwt : D.wts (l.flatMap SDecl.d) ≤ 1048576 := by
    simp only [D.wts, D.wt] at hw
    omega
  exact ⟨l, decls_small l hwt, h0⟩
end Go.Proofs.YtnneooidkbhbeaaGreatDoor
