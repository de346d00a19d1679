/- ShowSames: the law answers true, whatever the declarations (their parts small), if known() does. Written by gen_shl.py. -/
import Derived.Test.YtnneooidkbhbeaaGreatDoorShQ
import Derived.Test.YtnneooidkbhbeaaGreatDoorShSz
import Derived.Test.YtnneooidkbhbeaaGreatDoorShY
import Derived.Deep.RegionHeld3
set_option linter.unusedVariables false
set_option linter.unusedSimpArgs false
namespace Go.Proofs.YtnneooidkbhbeaaGreatDoor
open Go.RowKit

mutual
theorem SPat.same_refl : ∀ x : SPat, x.same x = true
  | .mk _ _ _ _ _ _ l => by have := SPat.sames_refl l; simp [SPat.same, this]
theorem SPat.sames_refl : ∀ l : List SPat, SPat.sames l l = true
  | [] => by simp [SPat.sames]
  | x :: r => by have := SPat.same_refl x; have := SPat.sames_refl r; simp [SPat.sames, *]
end
mutual
theorem STy.same_refl : ∀ x : STy, x.same x = true
  | .mk _ _ _ _ _ _ l => by have := STy.sames_refl l; simp [STy.same, this]
theorem STy.sames_refl : ∀ l : List STy, STy.sames l l = true
  | [] => by simp [STy.sames]
  | x :: r => by have := STy.same_refl x; have := STy.sames_refl r; simp [STy.sames, *]
end
mutual
theorem SExpr.same_refl : ∀ x : SExpr, x.same x = true
  | .mk _ _ _ _ _ _ l a => by have := SExpr.sames_refl l; have := SArm.sames_refl a; simp [SExpr.same, *]
theorem SExpr.sames_refl : ∀ l : List SExpr, SExpr.sames l l = true
  | [] => by simp [SExpr.sames]
  | x :: r => by have := SExpr.same_refl x; have := SExpr.sames_refl r; simp [SExpr.sames, *]
theorem SArm.same_refl : ∀ x : SArm, x.same x = true
  | .mk p e => by have := SPat.same_refl p; have := SExpr.same_refl e; simp [SArm.same, *]
theorem SArm.sames_refl : ∀ l : List SArm, SArm.sames l l = true
  | [] => by simp [SArm.sames]
  | x :: r => by have := SArm.same_refl x; have := SArm.sames_refl r; simp [SArm.sames, *]
end
theorem eqL_refl {α : Type} (p : α → α → Bool) (h : ∀ x, p x x = true) : ∀ l : List α, eqL p l l = true
  | [] => rfl
  | x :: r => by simp [eqL, h x, eqL_refl p h r]
theorem SDecl.same_refl (x : SDecl) : x.same x = true := by
  have h1 : eqL sEq x.params x.params = true := eqL_refl sEq (fun s => by simp [sEq]) _
  have h2 : eqL SConD.same x.cons x.cons = true := eqL_refl SConD.same (fun c => by
    have : eqL SField.same c.fields c.fields = true := eqL_refl SField.same (fun f => by simp [SField.same, STy.same_refl]) _
    simp [SConD.same, this]) _
  simp [SDecl.same, h1, h2, SExpr.same_refl]

set_option maxRecDepth 100000 in
set_option maxHeartbeats 4000000 in
theorem showSames_walk (l m : List SDecl) (v u : Value) (w : World) (hl : DSmall l) (hm : DSmall m) (hr : Rd w w.heap.size v (.list 16 l.length (l.flatMap SDecl.d))) (hr2 : Rd w w.heap.size u (.list 16 m.length (m.flatMap SDecl.d)))
    (hk : ∀ W, Below w.heap.size w W → Calls Tryz.prog 7 #[] W fun e w' => e = .returned (.bool true) ∧ Below W.heap.size W w') :
    Calls Tryz.prog 4 #[v, u] w fun e w' => e = .returned (.bool true) ∧ Below w.heap.size w w' := by
  have HKN := Lib.hid (hk w (Below.refl _ _))
  have HR := Lib.hid hr
  have HR2 := Lib.hid hr2
  have HZ1 := Lib.hid (fun (W : World) (hW : Below w.heap.size w W) => rsizeAll_any l v W hl ((hr.keep hW).mono hW.size))
  have HZ2 := Lib.hid (fun (W : World) (hW : Below w.heap.size w W) => rsizeAll_any m u W hm ((hr2.keep hW).mono hW.size))
  have HS1 := Lib.hid (fun (W : World) (hW : Below w.heap.size w W) => same_any l m v u W hl ((hr.keep hW).mono hW.size) ((hr2.keep hW).mono hW.size))
  have HS2 := Lib.hid (fun (W : World) (hW : Below w.heap.size w W) => rsame_any l m v u W hl ((hr.keep hW).mono hW.size) ((hr2.keep hW).mono hW.size))
  have HS3 := Lib.hid (fun (W : World) (hW : Below w.heap.size w W) => same_any l l v v W hl ((hr.keep hW).mono hW.size) ((hr.keep hW).mono hW.size))
  rw [eqL_refl SDecl.same SDecl.same_refl l] at HS3
  obtain ⟨a, cap, rfl⟩ := hr.slice_inv
  obtain ⟨a', cap', rfl⟩ := hr2.slice_inv
  have hn := hl.n
  have hn2 := hm.n
  have HDL := Lib.hid hl.d
  have HDM := Lib.hid hm.d
  obtain ⟨q, hq⟩ : ∃ q, eqL SDecl.same l m = q := ⟨_, rfl⟩
  rw [hq] at HS1 HS2
  clear hl hm hr hr2 hk hq
  go_enter Tryz.func4, Tryz.ntmps4
  go_wp2_with fail
  refine HKN.out.mono ?_
  rintro e w1 ⟨rfl, hb1⟩
  go_wp2_with fail
  refine (HZ1.out _ hb1).mono ?_
  rintro e w2 ⟨⟨z1, rfl⟩, hb2⟩
  have hb2w : Below w.heap.size w w2 := hb1.trans (hb2.mono hb1.size)
  clear hb2
  by_cases hz1 : 3000 < z1
  · have d1 : decide (3000 < z1) = true := decide_eq_true hz1
    clear hz1
    go_wp2
    go_ret
    exact ⟨rfl, hb2w⟩
  have d1 : decide (3000 < z1) = false := decide_eq_false hz1
  clear hz1
  go_wp2_with fail
  refine (HZ2.out _ hb2w).mono ?_
  rintro e w3 ⟨⟨z2, rfl⟩, hb3⟩
  have hb3w : Below w.heap.size w w3 := hb2w.trans (hb3.mono hb2w.size)
  clear hb3 hb1 hb2w HZ1 HZ2 HKN
  by_cases hz2 : 3000 < z2
  · have d2 : decide (3000 < z2) = true := decide_eq_true hz2
    clear hz2
    go_wp2
    go_ret
    exact ⟨rfl, hb3w⟩
  have d2 : decide (3000 < z2) = false := decide_eq_false hz2
  clear hz2
  go_wp2
  go_loopw [21] (fun uk wr => ∃ k : Nat, k ≤ l.length ∧ uk = .int .i64 k ∧ Below w.heap.size w wr) (fun u _ => l.length - (intOf u).toNat)
  case atStart => exact ⟨0, Nat.zero_le _, rfl, hb3w⟩
  case round =>
    clear hb3w
    obtain ⟨wo, rfl⟩ : ∃ z, z = wr := ⟨_, rfl⟩
    obtain ⟨k, hkl, rfl, hbel⟩ := hrel
    have hszo := hbel.size
    by_cases hltx : k < l.length
    · have e1 : decide ((k : Int) < (l.length : Int)) = true := decide_eq_true (by omega)
      obtain ⟨blx, offx, cpx, usx, hvx, hbx, hcx, hcellx, hux⟩ := HR.out.elem SDecl.d_len rfl k hltx (by omega)
      injection hvx with hax hnx hcapx
      subst hax hcapx
      have hsm := HDL.out k hltx
      have HD1 := Lib.hid (fun (W : World) (hW : Below w.heap.size w W) => depth_any l[k] usx W hsm ((hux.keep hW).mono hW.size))
      have HD2 := Lib.hid (fun (W : World) (hW : Below w.heap.size w W) => rdepth_any l[k] usx W hsm ((hux.keep hW).mono hW.size))
      obtain ⟨dd, hdd⟩ : ∃ z, l[k].depth = z := ⟨_, rfl⟩
      rw [hdd] at HD1 HD2
      have hse := hsm.e
      obtain ⟨v5x, v6x, uex, rfl, g5x, g6x, hex, -, -⟩ := SDecl.cells hux
      obtain ⟨a5x, d5x, rfl⟩ := g5x.slice_inv
      obtain ⟨a6x, d6x, rfl⟩ := g6x.slice_inv
      have HEx := Lib.hid hex
      obtain ⟨v6ex, v7ex, rfl, g6ex, g7ex, -⟩ := SExpr.cells hex
      obtain ⟨a6ex, d6ex, rfl⟩ := g6ex.slice_inv
      obtain ⟨a7ex, d7ex, rfl⟩ := g7ex.slice_inv
      have HXE1 := Lib.hid (fun (W : World) (y : SExpr) (vs : List Value) (hW : Below w.heap.size w W) (hv : Rds w w.heap.size vs y.d) => sameExpr_any _ l[k].e y _ vs W (Nat.le_refl _) hse ((HEx.out.keep hW).mono hW.size) ((hv.keep hW).mono hW.size))
      have HXE2 := Lib.hid (fun (W : World) (y : SExpr) (vs : List Value) (hW : Below w.heap.size w W) (hv : Rds w w.heap.size vs y.d) => rsameExpr_any _ l[k].e y _ vs W (Nat.le_refl _) hse ((HEx.out.keep hW).mono hW.size) ((hv.keep hW).mono hW.size))
      have cx0 := (hbel.cell (p := ⟨blx, offx + k * 16, none⟩) hbx).trans (hcellx 0 _ rfl)
      have cx1 := (hbel.cell (p := ⟨blx, offx + k * 16 + 1, none⟩) hbx).trans (hcellx 1 _ rfl)
      have cx2 := (hbel.cell (p := ⟨blx, offx + k * 16 + 2, none⟩) hbx).trans (hcellx 2 _ rfl)
      have cx3 := (hbel.cell (p := ⟨blx, offx + k * 16 + 3, none⟩) hbx).trans (hcellx 3 _ rfl)
      have cx4 := (hbel.cell (p := ⟨blx, offx + k * 16 + 4, none⟩) hbx).trans (hcellx 4 _ rfl)
      have cx5 := (hbel.cell (p := ⟨blx, offx + k * 16 + 5, none⟩) hbx).trans (hcellx 5 _ rfl)
      have cx6 := (hbel.cell (p := ⟨blx, offx + k * 16 + 6, none⟩) hbx).trans (hcellx 6 _ rfl)
      have cx7 := (hbel.cell (p := ⟨blx, offx + k * 16 + 7, none⟩) hbx).trans (hcellx 7 _ rfl)
      have cx8 := (hbel.cell (p := ⟨blx, offx + k * 16 + 8, none⟩) hbx).trans (hcellx 8 _ rfl)
      have cx9 := (hbel.cell (p := ⟨blx, offx + k * 16 + 9, none⟩) hbx).trans (hcellx 9 _ rfl)
      have cx10 := (hbel.cell (p := ⟨blx, offx + k * 16 + 10, none⟩) hbx).trans (hcellx 10 _ rfl)
      have cx11 := (hbel.cell (p := ⟨blx, offx + k * 16 + 11, none⟩) hbx).trans (hcellx 11 _ rfl)
      have cx12 := (hbel.cell (p := ⟨blx, offx + k * 16 + 12, none⟩) hbx).trans (hcellx 12 _ rfl)
      have cx13 := (hbel.cell (p := ⟨blx, offx + k * 16 + 13, none⟩) hbx).trans (hcellx 13 _ rfl)
      have cx14 := (hbel.cell (p := ⟨blx, offx + k * 16 + 14, none⟩) hbx).trans (hcellx 14 _ rfl)
      have cx15 := (hbel.cell (p := ⟨blx, offx + k * 16 + 15, none⟩) hbx).trans (hcellx 15 _ rfl)
      clear hcellx hux hdd hsm hse HEx g5x g6x hex g6ex g7ex
      obtain ⟨xe, hxe⟩ : ∃ z, l[k].e = z := ⟨_, rfl⟩
      rw [hxe] at HD1 HD2 HXE1 HXE2 cx8 cx9 cx10 cx11 cx12 cx13 cx14 cx15
      generalize l[k].kind = gx0 at HD1 HD2 cx0
      generalize l[k].name = gx1 at HD1 HD2 cx1
      generalize l[k].at_ = gx2 at HD1 HD2 cx2
      generalize l[k].line = gx3 at HD1 HD2 cx3
      generalize l[k].col = gx4 at HD1 HD2 cx4
      generalize l[k].params.length = gx5 at HD1 HD2 cx5
      generalize l[k].cons.length = gx6 at HD1 HD2 cx6
      generalize l[k].rc = gx7 at HD1 HD2 cx7
      generalize xe.kind = gx8 at HD1 HD2 HXE1 HXE2 cx8
      generalize xe.s = gx9 at HD1 HD2 HXE1 HXE2 cx9
      generalize xe.n = gx10 at HD1 HD2 HXE1 HXE2 cx10
      generalize xe.at_ = gx11 at HD1 HD2 HXE1 HXE2 cx11
      generalize xe.line = gx12 at HD1 HD2 HXE1 HXE2 cx12
      generalize xe.col = gx13 at HD1 HD2 HXE1 HXE2 cx13
      generalize xe.l.length = gx14 at HD1 HD2 HXE1 HXE2 cx14
      generalize xe.arms.length = gx15 at HD1 HD2 HXE1 HXE2 cx15
      clear hxe
      have k0 : (0 : Int) ≤ (k : Int) := by omega
      have kx : (k : Int) < (l.length : Int) := by omega
      go_upto_region 7 with fail
      go_cut [6] (fun v6 wx => v6 = .pointer (some ⟨wo.heap.size, 0, none⟩) ∧ Hid (Below w.heap.size w wx ∧ wo.heap.size < wx.heap.size ∧ Blk wx wo.heap.size #[.int .u8 gx0, .string gx1, .int .i64 gx2, .int .i64 gx3, .int .i64 gx4, .slice a5x gx5 d5x, .slice a6x gx6 d6x, .bool gx7, .int .u8 gx8, .string gx9, .int .i64 gx10, .int .i64 gx11, .int .i64 gx12, .int .i64 gx13, .slice a6ex gx14 d6ex, .slice a7ex gx15 d7ex] 40))
      case first => as_aux_lemma =>
        go_wp2_with fail
        go_meet
        exact ⟨rfl, Lib.hid ⟨hbel.alloc (by omega) _, by simp, Blk.new _ _ _ _ rfl⟩⟩
      obtain ⟨rfl, HC1⟩ := hcut
      obtain ⟨wa, hwa⟩ : ∃ W, W = wc := ⟨_, rfl⟩
      subst hwa
      clear cx0 cx1 cx2 cx3 cx4 cx5 cx6 cx7 cx8 cx9 cx10 cx11 cx12 cx13 cx14 cx15
      obtain ⟨bxx, hbxx⟩ : ∃ b : Array Value, #[.int .u8 gx0, .string gx1, .int .i64 gx2, .int .i64 gx3, .int .i64 gx4, .slice a5x gx5 d5x, .slice a6x gx6 d6x, .bool gx7, .int .u8 gx8, .string gx9, .int .i64 gx10, .int .i64 gx11, .int .i64 gx12, .int .i64 gx13, .slice a6ex gx14 d6ex, .slice a7ex gx15 d7ex] = b := ⟨_, rfl⟩
      have HF := Lib.hid (fun (V : World) (h : Blk V wo.heap.size bxx 40) => (⟨(h.cell 0).trans (by rw [← hbxx]; rfl), (h.cell 1).trans (by rw [← hbxx]; rfl), (h.cell 2).trans (by rw [← hbxx]; rfl), (h.cell 3).trans (by rw [← hbxx]; rfl), (h.cell 4).trans (by rw [← hbxx]; rfl), (h.cell 5).trans (by rw [← hbxx]; rfl), (h.cell 6).trans (by rw [← hbxx]; rfl), (h.cell 7).trans (by rw [← hbxx]; rfl), (h.cell 8).trans (by rw [← hbxx]; rfl), (h.cell 9).trans (by rw [← hbxx]; rfl), (h.cell 10).trans (by rw [← hbxx]; rfl), (h.cell 11).trans (by rw [← hbxx]; rfl), (h.cell 12).trans (by rw [← hbxx]; rfl), (h.cell 13).trans (by rw [← hbxx]; rfl), (h.cell 14).trans (by rw [← hbxx]; rfl), (h.cell 15).trans (by rw [← hbxx]; rfl)⟩ : V.cell? ⟨wo.heap.size, 0, none⟩ = some (.int .u8 gx0) ∧ V.cell? ⟨wo.heap.size, 1, none⟩ = some (.string gx1) ∧ V.cell? ⟨wo.heap.size, 2, none⟩ = some (.int .i64 gx2) ∧ V.cell? ⟨wo.heap.size, 3, none⟩ = some (.int .i64 gx3) ∧ V.cell? ⟨wo.heap.size, 4, none⟩ = some (.int .i64 gx4) ∧ V.cell? ⟨wo.heap.size, 5, none⟩ = some (.slice a5x gx5 d5x) ∧ V.cell? ⟨wo.heap.size, 6, none⟩ = some (.slice a6x gx6 d6x) ∧ V.cell? ⟨wo.heap.size, 7, none⟩ = some (.bool gx7) ∧ V.cell? ⟨wo.heap.size, 8, none⟩ = some (.int .u8 gx8) ∧ V.cell? ⟨wo.heap.size, 9, none⟩ = some (.string gx9) ∧ V.cell? ⟨wo.heap.size, 10, none⟩ = some (.int .i64 gx10) ∧ V.cell? ⟨wo.heap.size, 11, none⟩ = some (.int .i64 gx11) ∧ V.cell? ⟨wo.heap.size, 12, none⟩ = some (.int .i64 gx12) ∧ V.cell? ⟨wo.heap.size, 13, none⟩ = some (.int .i64 gx13) ∧ V.cell? ⟨wo.heap.size, 14, none⟩ = some (.slice a6ex gx14 d6ex) ∧ V.cell? ⟨wo.heap.size, 15, none⟩ = some (.slice a7ex gx15 d7ex)))
      have HFE := Lib.hid (fun (V : World) (h : Blk V wo.heap.size bxx 40) => (⟨(h.cell 8).trans (by rw [← hbxx]; rfl), (h.cell 9).trans (by rw [← hbxx]; rfl), (h.cell 10).trans (by rw [← hbxx]; rfl), (h.cell 11).trans (by rw [← hbxx]; rfl), (h.cell 12).trans (by rw [← hbxx]; rfl), (h.cell 13).trans (by rw [← hbxx]; rfl), (h.cell 14).trans (by rw [← hbxx]; rfl), (h.cell 15).trans (by rw [← hbxx]; rfl)⟩ : V.cell? ⟨wo.heap.size, 8, none⟩ = some (.int .u8 gx8) ∧ V.cell? ⟨wo.heap.size, 9, none⟩ = some (.string gx9) ∧ V.cell? ⟨wo.heap.size, 10, none⟩ = some (.int .i64 gx10) ∧ V.cell? ⟨wo.heap.size, 11, none⟩ = some (.int .i64 gx11) ∧ V.cell? ⟨wo.heap.size, 12, none⟩ = some (.int .i64 gx12) ∧ V.cell? ⟨wo.heap.size, 13, none⟩ = some (.int .i64 gx13) ∧ V.cell? ⟨wo.heap.size, 14, none⟩ = some (.slice a6ex gx14 d6ex) ∧ V.cell? ⟨wo.heap.size, 15, none⟩ = some (.slice a7ex gx15 d7ex)))
      rw [hbxx] at HC1
      clear hbxx
      go_upto_region 8 with fail
      go_cut [29] (fun v29 wx => v29 = .bool false ∧ Hid (Below w.heap.size w wx ∧ wo.heap.size < wx.heap.size ∧ Blk wx wo.heap.size bxx 40))
      case first => as_aux_lemma =>
        have hba := HC1.out.1
        have HB := Lib.hid HC1.out.2.2
        have hla := HC1.out.2.1
        have HFIN := Lib.hid (fun (V : World) (hV : Below wa.heap.size wa V) => hba.trans (hV.mono hba.size))
        have HD1' := Lib.hid (fun (V : World) (hV : Below wa.heap.size wa V) => HD1.out V (HFIN.out V hV))
        have HD2' := Lib.hid (fun (V : World) (hV : Below wa.heap.size wa V) => HD2.out V (HFIN.out V hV))
        obtain ⟨z0, z1, z2, z3, z4, z5, z6, z7, z8, z9, z10, z11, z12, z13, z14, z15⟩ := HF.out wa HB.out
        clear HD1 HD2 HXE1 HXE2
        go_region_held3 (fun w' => (w'.cell? ⟨wo.heap.size, 0, none⟩ = some (.int .u8 gx0) ∧ w'.cell? ⟨wo.heap.size, 1, none⟩ = some (.string gx1) ∧ w'.cell? ⟨wo.heap.size, 2, none⟩ = some (.int .i64 gx2) ∧ w'.cell? ⟨wo.heap.size, 3, none⟩ = some (.int .i64 gx3) ∧ w'.cell? ⟨wo.heap.size, 4, none⟩ = some (.int .i64 gx4) ∧ w'.cell? ⟨wo.heap.size, 5, none⟩ = some (.slice a5x gx5 d5x) ∧ w'.cell? ⟨wo.heap.size, 6, none⟩ = some (.slice a6x gx6 d6x) ∧ w'.cell? ⟨wo.heap.size, 7, none⟩ = some (.bool gx7) ∧ w'.cell? ⟨wo.heap.size, 8, none⟩ = some (.int .u8 gx8) ∧ w'.cell? ⟨wo.heap.size, 9, none⟩ = some (.string gx9) ∧ w'.cell? ⟨wo.heap.size, 10, none⟩ = some (.int .i64 gx10) ∧ w'.cell? ⟨wo.heap.size, 11, none⟩ = some (.int .i64 gx11) ∧ w'.cell? ⟨wo.heap.size, 12, none⟩ = some (.int .i64 gx12) ∧ w'.cell? ⟨wo.heap.size, 13, none⟩ = some (.int .i64 gx13) ∧ w'.cell? ⟨wo.heap.size, 14, none⟩ = some (.slice a6ex gx14 d6ex) ∧ w'.cell? ⟨wo.heap.size, 15, none⟩ = some (.slice a7ex gx15 d7ex)) ∧ Blk w' wo.heap.size bxx 40 ∧ Below wa.heap.size wa w') (first | assumption | exact ⟨⟨z0, z1, z2, z3, z4, z5, z6, z7, z8, z9, z10, z11, z12, z13, z14, z15⟩, HB.out, Below.refl _ _⟩ | exact ⟨HF.out _ (Blk.drew HB.out), Blk.drew HB.out, (Below.refl _ _).drew⟩ | exact keepS HF.out ‹_› ‹Below _ _ _›) (first | (go_at_call 14; refine (HD1'.out _ (And.right (And.right ‹_ ∧ _ ∧ Below wa.heap.size wa _›))).mono ?_; rintro _ w5 ⟨rfl, hb5⟩) | (go_at_call 15; refine (HD2'.out _ (And.right (And.right ‹_ ∧ _ ∧ Below wa.heap.size wa _›))).mono ?_; rintro _ w5 ⟨rfl, hb5⟩))
        all_goals
          go_wp2
          go_meet
          exact ⟨by simp, Lib.hid ⟨HFIN.out _ (And.right (And.right ‹_ ∧ _ ∧ Below wa.heap.size wa _›)), Nat.lt_of_lt_of_le hla (And.right (And.right ‹_ ∧ _ ∧ Below wa.heap.size wa _›)).size, And.left (And.right ‹_ ∧ _ ∧ Below wa.heap.size wa _›)⟩⟩
      obtain ⟨rfl, HC2⟩ := hcut
      clear HD1 HD2 HF HC1
      go_wp2
      go_loopw [32] (fun uj wr => ∃ j : Nat, j ≤ m.length ∧ uj = .int .i64 j ∧ Hid (Below w.heap.size w wr ∧ wo.heap.size < wr.heap.size ∧ Blk wr wo.heap.size bxx 40)) (fun u _ => m.length - (intOf u).toNat)
      case atStart => exact ⟨0, Nat.zero_le _, rfl, HC2⟩
      case round =>
        clear HC2
        obtain ⟨wp, rfl⟩ : ∃ z, z = wr := ⟨_, rfl⟩
        obtain ⟨j, hjl, rfl, HI⟩ := hrel
        have hbp := HI.out.1
        have hlp := HI.out.2.1
        by_cases hlty : j < m.length
        · have e2 : decide ((j : Int) < (m.length : Int)) = true := decide_eq_true (by omega)
          obtain ⟨bly, offy, cpy, usy, hvy, hby, hcy, hcelly, huy⟩ := HR2.out.elem SDecl.d_len rfl j hlty (by omega)
          injection hvy with hay hny hcapy
          subst hay hcapy
          obtain ⟨v5y, v6y, uey, rfl, g5y, g6y, hey, -, -⟩ := SDecl.cells huy
          obtain ⟨a5y, d5y, rfl⟩ := g5y.slice_inv
          obtain ⟨a6y, d6y, rfl⟩ := g6y.slice_inv
          have HEy := Lib.hid hey
          obtain ⟨v6ey, v7ey, rfl, g6ey, g7ey, -⟩ := SExpr.cells hey
          obtain ⟨a6ey, d6ey, rfl⟩ := g6ey.slice_inv
          obtain ⟨a7ey, d7ey, rfl⟩ := g7ey.slice_inv
          have HY1 := Lib.hid (fun (W : World) (hW : Below w.heap.size w W) => HXE1.out W m[j].e _ hW HEy.out)
          have HY2 := Lib.hid (fun (W : World) (hW : Below w.heap.size w W) => HXE2.out W m[j].e _ hW HEy.out)
          obtain ⟨qq, hqq⟩ : ∃ z, xe.same m[j].e = z := ⟨_, rfl⟩
          rw [hqq] at HY1 HY2
          have cy0 := (hbp.cell (p := ⟨bly, offy + j * 16, none⟩) hby).trans (hcelly 0 _ rfl)
          have cy1 := (hbp.cell (p := ⟨bly, offy + j * 16 + 1, none⟩) hby).trans (hcelly 1 _ rfl)
          have cy2 := (hbp.cell (p := ⟨bly, offy + j * 16 + 2, none⟩) hby).trans (hcelly 2 _ rfl)
          have cy3 := (hbp.cell (p := ⟨bly, offy + j * 16 + 3, none⟩) hby).trans (hcelly 3 _ rfl)
          have cy4 := (hbp.cell (p := ⟨bly, offy + j * 16 + 4, none⟩) hby).trans (hcelly 4 _ rfl)
          have cy5 := (hbp.cell (p := ⟨bly, offy + j * 16 + 5, none⟩) hby).trans (hcelly 5 _ rfl)
          have cy6 := (hbp.cell (p := ⟨bly, offy + j * 16 + 6, none⟩) hby).trans (hcelly 6 _ rfl)
          have cy7 := (hbp.cell (p := ⟨bly, offy + j * 16 + 7, none⟩) hby).trans (hcelly 7 _ rfl)
          have cy8 := (hbp.cell (p := ⟨bly, offy + j * 16 + 8, none⟩) hby).trans (hcelly 8 _ rfl)
          have cy9 := (hbp.cell (p := ⟨bly, offy + j * 16 + 9, none⟩) hby).trans (hcelly 9 _ rfl)
          have cy10 := (hbp.cell (p := ⟨bly, offy + j * 16 + 10, none⟩) hby).trans (hcelly 10 _ rfl)
          have cy11 := (hbp.cell (p := ⟨bly, offy + j * 16 + 11, none⟩) hby).trans (hcelly 11 _ rfl)
          have cy12 := (hbp.cell (p := ⟨bly, offy + j * 16 + 12, none⟩) hby).trans (hcelly 12 _ rfl)
          have cy13 := (hbp.cell (p := ⟨bly, offy + j * 16 + 13, none⟩) hby).trans (hcelly 13 _ rfl)
          have cy14 := (hbp.cell (p := ⟨bly, offy + j * 16 + 14, none⟩) hby).trans (hcelly 14 _ rfl)
          have cy15 := (hbp.cell (p := ⟨bly, offy + j * 16 + 15, none⟩) hby).trans (hcelly 15 _ rfl)
          clear hcelly huy hqq HEy g5y g6y hey g6ey g7ey
          generalize m[j].kind = gy0 at HY1 HY2 cy0
          generalize m[j].name = gy1 at HY1 HY2 cy1
          generalize m[j].at_ = gy2 at HY1 HY2 cy2
          generalize m[j].line = gy3 at HY1 HY2 cy3
          generalize m[j].col = gy4 at HY1 HY2 cy4
          generalize m[j].params.length = gy5 at HY1 HY2 cy5
          generalize m[j].cons.length = gy6 at HY1 HY2 cy6
          generalize m[j].rc = gy7 at HY1 HY2 cy7
          generalize m[j].e.kind = gy8 at HY1 HY2 cy8
          generalize m[j].e.s = gy9 at HY1 HY2 cy9
          generalize m[j].e.n = gy10 at HY1 HY2 cy10
          generalize m[j].e.at_ = gy11 at HY1 HY2 cy11
          generalize m[j].e.line = gy12 at HY1 HY2 cy12
          generalize m[j].e.col = gy13 at HY1 HY2 cy13
          generalize m[j].e.l.length = gy14 at HY1 HY2 cy14
          generalize m[j].e.arms.length = gy15 at HY1 HY2 cy15
          have j0 : (0 : Int) ≤ (j : Int) := by omega
          have jx : (j : Int) < (m.length : Int) := by omega
          have hszp := hbp.size
          go_upto_region 12 with fail
          go_cut [8] (fun v8 wx => v8 = .pointer (some ⟨wp.heap.size, 0, none⟩) ∧ Hid (Below w.heap.size w wx ∧ wp.heap.size < wx.heap.size ∧ Blk wx wo.heap.size bxx 40 ∧ Blk wx wp.heap.size #[.int .u8 gy0, .string gy1, .int .i64 gy2, .int .i64 gy3, .int .i64 gy4, .slice a5y gy5 d5y, .slice a6y gy6 d6y, .bool gy7, .int .u8 gy8, .string gy9, .int .i64 gy10, .int .i64 gy11, .int .i64 gy12, .int .i64 gy13, .slice a6ey gy14 d6ey, .slice a7ey gy15 d7ey] 40))
          case first => as_aux_lemma =>
            go_wp2_with fail
            go_meet
            exact ⟨rfl, Lib.hid ⟨hbp.alloc (by omega) _, by simp, HI.out.2.2.alloc _, Blk.new _ _ _ _ rfl⟩⟩
          obtain ⟨rfl, HC3⟩ := hcut
          obtain ⟨wb, hwb⟩ : ∃ W, W = wc := ⟨_, rfl⟩
          subst hwb
          clear cy0 cy1 cy2 cy3 cy4 cy5 cy6 cy7 cy8 cy9 cy10 cy11 cy12 cy13 cy14 cy15
          go_upto_region 13 with fail
          go_cut [46] (fun v46 wx => v46 = .bool false ∧ Hid (Below w.heap.size w wx ∧ wo.heap.size < wx.heap.size ∧ Blk wx wo.heap.size bxx 40))
          case first => as_aux_lemma =>
            have hba := HC3.out.1
            have hlb := HC3.out.2.1
            have HFIN := Lib.hid (fun (V : World) (hV : Below wb.heap.size wb V) => hba.trans (hV.mono hba.size))
            have HY1' := Lib.hid (fun (V : World) (hV : Below wb.heap.size wb V) => HY1.out V (HFIN.out V hV))
            have HY2' := Lib.hid (fun (V : World) (hV : Below wb.heap.size wb V) => HY2.out V (HFIN.out V hV))
            have HF2 := Lib.hid (fun (V : World) (hV : Below wb.heap.size wb V) => (by
              have h1 := HFE.out V (HC3.out.2.2.1.below hV HC3.out.2.2.1.lt)
              have h2 := HC3.out.2.2.2.below hV HC3.out.2.2.2.lt
              exact ⟨h1.1, h1.2.1, h1.2.2.1, h1.2.2.2.1, h1.2.2.2.2.1, h1.2.2.2.2.2.1, h1.2.2.2.2.2.2.1, h1.2.2.2.2.2.2.2, (h2.cell 8).trans rfl, (h2.cell 9).trans rfl, (h2.cell 10).trans rfl, (h2.cell 11).trans rfl, (h2.cell 12).trans rfl, (h2.cell 13).trans rfl, (h2.cell 14).trans rfl, (h2.cell 15).trans rfl⟩ : V.cell? ⟨wo.heap.size, 8, none⟩ = some (.int .u8 gx8) ∧ V.cell? ⟨wo.heap.size, 9, none⟩ = some (.string gx9) ∧ V.cell? ⟨wo.heap.size, 10, none⟩ = some (.int .i64 gx10) ∧ V.cell? ⟨wo.heap.size, 11, none⟩ = some (.int .i64 gx11) ∧ V.cell? ⟨wo.heap.size, 12, none⟩ = some (.int .i64 gx12) ∧ V.cell? ⟨wo.heap.size, 13, none⟩ = some (.int .i64 gx13) ∧ V.cell? ⟨wo.heap.size, 14, none⟩ = some (.slice a6ex gx14 d6ex) ∧ V.cell? ⟨wo.heap.size, 15, none⟩ = some (.slice a7ex gx15 d7ex) ∧ V.cell? ⟨wp.heap.size, 8, none⟩ = some (.int .u8 gy8) ∧ V.cell? ⟨wp.heap.size, 9, none⟩ = some (.string gy9) ∧ V.cell? ⟨wp.heap.size, 10, none⟩ = some (.int .i64 gy10) ∧ V.cell? ⟨wp.heap.size, 11, none⟩ = some (.int .i64 gy11) ∧ V.cell? ⟨wp.heap.size, 12, none⟩ = some (.int .i64 gy12) ∧ V.cell? ⟨wp.heap.size, 13, none⟩ = some (.int .i64 gy13) ∧ V.cell? ⟨wp.heap.size, 14, none⟩ = some (.slice a6ey gy14 d6ey) ∧ V.cell? ⟨wp.heap.size, 15, none⟩ = some (.slice a7ey gy15 d7ey)))
            obtain ⟨z0, z1, z2, z3, z4, z5, z6, z7, z8, z9, z10, z11, z12, z13, z14, z15⟩ := HF2.out wb (Below.refl _ _)
            clear HY1 HY2 HXE1 HXE2
            go_region_held3 (fun w' => (w'.cell? ⟨wo.heap.size, 8, none⟩ = some (.int .u8 gx8) ∧ w'.cell? ⟨wo.heap.size, 9, none⟩ = some (.string gx9) ∧ w'.cell? ⟨wo.heap.size, 10, none⟩ = some (.int .i64 gx10) ∧ w'.cell? ⟨wo.heap.size, 11, none⟩ = some (.int .i64 gx11) ∧ w'.cell? ⟨wo.heap.size, 12, none⟩ = some (.int .i64 gx12) ∧ w'.cell? ⟨wo.heap.size, 13, none⟩ = some (.int .i64 gx13) ∧ w'.cell? ⟨wo.heap.size, 14, none⟩ = some (.slice a6ex gx14 d6ex) ∧ w'.cell? ⟨wo.heap.size, 15, none⟩ = some (.slice a7ex gx15 d7ex) ∧ w'.cell? ⟨wp.heap.size, 8, none⟩ = some (.int .u8 gy8) ∧ w'.cell? ⟨wp.heap.size, 9, none⟩ = some (.string gy9) ∧ w'.cell? ⟨wp.heap.size, 10, none⟩ = some (.int .i64 gy10) ∧ w'.cell? ⟨wp.heap.size, 11, none⟩ = some (.int .i64 gy11) ∧ w'.cell? ⟨wp.heap.size, 12, none⟩ = some (.int .i64 gy12) ∧ w'.cell? ⟨wp.heap.size, 13, none⟩ = some (.int .i64 gy13) ∧ w'.cell? ⟨wp.heap.size, 14, none⟩ = some (.slice a6ey gy14 d6ey) ∧ w'.cell? ⟨wp.heap.size, 15, none⟩ = some (.slice a7ey gy15 d7ey)) ∧ Below wb.heap.size wb w') (first | assumption | exact ⟨⟨z0, z1, z2, z3, z4, z5, z6, z7, z8, z9, z10, z11, z12, z13, z14, z15⟩, Below.refl _ _⟩ | exact keepB0 HF2.out (Below.refl _ _).drew | exact keepB HF2.out ‹_› ‹Below _ _ _›) (first | (go_at_call 16; refine (HY1'.out _ (And.right ‹_ ∧ Below wb.heap.size wb _›)).mono ?_; rintro _ w5 ⟨rfl, hb5⟩) | (go_at_call 17; refine (HY2'.out _ (And.right ‹_ ∧ Below wb.heap.size wb _›)).mono ?_; rintro _ w5 ⟨rfl, hb5⟩))
            all_goals
              go_wp2
              go_meet
              exact ⟨by cases qq <;> simp, Lib.hid ⟨HFIN.out _ (And.right ‹_ ∧ Below wb.heap.size wb _›), Nat.lt_of_lt_of_le (Nat.lt_trans hlp hlb) (And.right ‹_ ∧ Below wb.heap.size wb _›).size, HC3.out.2.2.1.below (And.right ‹_ ∧ Below wb.heap.size wb _›) HC3.out.2.2.1.lt⟩⟩
          obtain ⟨rfl, HC4⟩ := hcut
          clear HY1 HY2 HC3 HI
          go_wp2
          go_roundw
          case rel => exact ⟨j + 1, hlty, by go_num, HC4⟩
          case measure => simp [intOf]; omega
        · have e2 : decide ((j : Int) < (m.length : Int)) = false := decide_eq_false (by omega)
          have e2' : decide (j < m.length) = false := decide_eq_false (by omega)
          clear hlty hjl
          go_wp2
          go_roundw
          case rel => exact ⟨k + 1, hltx, by go_num, hbp⟩
          case measure => simp [intOf]; omega
    · have e1 : decide ((k : Int) < (l.length : Int)) = false := decide_eq_false (by omega)
      have e1' : decide (k < l.length) = false := decide_eq_false (by omega)
      clear hltx hkl
      go_wp2_with fail
      refine (HS1.out _ hbel).mono ?_
      rintro e w5 ⟨rfl, hb5⟩
      have hb5w : Below w.heap.size w w5 := hbel.trans (hb5.mono hbel.size)
      clear hb5
      go_wp2_with fail
      refine (HS2.out _ hb5w).mono ?_
      rintro e w6 ⟨rfl, hb6⟩
      have hb6w : Below w.heap.size w w6 := hb5w.trans (hb6.mono hb5w.size)
      clear hb6
      have tq : (q == q) = true := by cases q <;> rfl
      go_wp2_with fail
      refine (HS3.out _ hb6w).mono ?_
      rintro e w7 ⟨rfl, hb7⟩
      have hb7w : Below w.heap.size w w7 := hb6w.trans (hb7.mono hb6w.size)
      clear hb7
      go_wp2
      go_ret
      exact ⟨rfl, hb7w⟩
end Go.Proofs.YtnneooidkbhbeaaGreatDoor
