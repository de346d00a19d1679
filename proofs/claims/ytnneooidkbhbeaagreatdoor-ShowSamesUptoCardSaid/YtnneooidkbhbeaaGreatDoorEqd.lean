/- Contracts: slices.EqualFunc, alike at declarations. Written by gen_eqd.py. -/
import Derived.Test.YtnneooidkbhbeaaGreatDoorEqf
import Derived.Deep.CutBlock
import Derived.Deep.DeepCutAuto
set_option linter.unusedVariables false
set_option linter.unusedSimpArgs false
namespace Go.Proofs.YtnneooidkbhbeaaGreatDoor
open Go.RowKit

set_option maxRecDepth 100000 in
set_option maxHeartbeats 2000000 in
theorem eqf_SDecl (l m : List SDecl) (v u : Value) (g : FuncId) (caps : Array Value) (p : SDecl → SDecl → Bool) (w : World) (hn : l.length ≤ 1048576) (hin : Enters Tryz.prog g) (hr : Rd w w.heap.size v (.list 16 l.length (l.flatMap SDecl.d))) (hr2 : Rd w w.heap.size u (.list 16 m.length (m.flatMap SDecl.d)))
    (hp : ∀ (i : Nat) (h : i < l.length) (h2 : i < m.length) (W : World) (us vs : List Value), Below w.heap.size w W → Rds w w.heap.size us (l[i]'h).d → Rds w w.heap.size vs (m[i]'h2).d → Calls Tryz.prog g (#[.agg us.toArray, .agg vs.toArray] ++ caps) W fun e w' => e = .returned (.bool (p (l[i]'h) (m[i]'h2))) ∧ Below W.heap.size W w') :
    Calls Tryz.prog 113 #[v, u, .func (.func g) #[] caps] w fun e w' => e = .returned (.bool (eqL p l m)) ∧ Below w.heap.size w w' := by
  obtain ⟨a, cap, rfl⟩ := hr.slice_inv
  obtain ⟨a', cap', rfl⟩ := hr2.slice_inv
  have HP := Lib.hid hp
  clear hp
  unfold Enters at hin
  by_cases hlen : l.length = m.length
  · have t0 : ((l.length : Int) != (m.length : Int)) = false := by simp [hlen]
    have HLEN := Lib.hid hlen
    clear hlen
    go_enter Tryz.func113, Tryz.ntmps113
    go_wp2
    go_loopw [17] (fun u wr => ∃ k : Nat, k ≤ l.length ∧ u = .int .i64 k ∧ Hid (eqL p l m = eqL p (l.drop k) (m.drop k)) ∧ Below w.heap.size w wr) (fun u _ => l.length - (intOf u).toNat)
    case atStart => exact ⟨0, Nat.zero_le _, rfl, rfl, Below.refl _ _⟩
    case round =>
      obtain ⟨k, hk, rfl, HE, hbel⟩ := hrel
      have hsz0 := hbel.size
      by_cases hltx : k < l.length
      · have hlty : k < m.length := by have := HLEN.out; omega
        obtain ⟨blx, offx, cpx, usx, hvx, hbx, hcx, hcellx, hux⟩ := hr.elem SDecl.d_len rfl k hltx (by omega)
        injection hvx with hax hnx hcapx
        subst hax hcapx
        obtain ⟨bly, offy, cpy, usy, hvy, hby, hcy, hcelly, huy⟩ := hr2.elem SDecl.d_len rfl k hlty (by omega)
        injection hvy with hay hny hcapy
        subst hay hcapy
        have HC := Lib.hid (fun (W : World) (hW : Below w.heap.size w W) => HP.out k hltx hlty W usx usy hW hux huy)
        have HS := Lib.hid (eqL_drop p l m k hltx hlty)
        obtain ⟨q, hq⟩ : ∃ q, p l[k] m[k] = q := ⟨_, rfl⟩
        rw [hq] at HC HS
        obtain ⟨v5x, v6x, uex, rfl, g5x, g6x, hex, -, -⟩ := SDecl.cells hux
        obtain ⟨a5x, d5x, rfl⟩ := g5x.slice_inv
        obtain ⟨a6x, d6x, rfl⟩ := g6x.slice_inv
        obtain ⟨v6ex, v7ex, rfl, g6ex, g7ex, -⟩ := SExpr.cells hex
        obtain ⟨a6ex, d6ex, rfl⟩ := g6ex.slice_inv
        obtain ⟨a7ex, d7ex, rfl⟩ := g7ex.slice_inv
        obtain ⟨v5y, v6y, uey, rfl, g5y, g6y, hey, -, -⟩ := SDecl.cells huy
        obtain ⟨a5y, d5y, rfl⟩ := g5y.slice_inv
        obtain ⟨a6y, d6y, rfl⟩ := g6y.slice_inv
        obtain ⟨v6ey, v7ey, rfl, g6ey, g7ey, -⟩ := SExpr.cells hey
        obtain ⟨a6ey, d6ey, rfl⟩ := g6ey.slice_inv
        obtain ⟨a7ey, d7ey, rfl⟩ := g7ey.slice_inv
        have cx0 := (hbel.cell (p := ⟨blx, offx + k * 16, none⟩) hbx).trans (hcellx 0 _ rfl)
        have cx1 := (hbel.cell (p := ⟨blx, offx + k * 16 + 1, none⟩) hbx).trans (hcellx 1 _ rfl)
        have cx2 := (hbel.cell (p := ⟨blx, offx + k * 16 + 2, none⟩) hbx).trans (hcellx 2 _ rfl)
        have cx3 := (hbel.cell (p := ⟨blx, offx + k * 16 + 3, none⟩) hbx).trans (hcellx 3 _ rfl)
        have cx4 := (hbel.cell (p := ⟨blx, offx + k * 16 + 4, none⟩) hbx).trans (hcellx 4 _ rfl)
        have cx5 := (hbel.cell (p := ⟨blx, offx + k * 16 + 5, none⟩) hbx).trans (hcellx 5 _ rfl)
        have cx6 := (hbel.cell (p := ⟨blx, offx + k * 16 + 6, none⟩) hbx).trans (hcellx 6 _ rfl)
        have cx7 := (hbel.cell (p := ⟨blx, offx + k * 16 + 7, none⟩) hbx).trans (hcellx 7 _ rfl)
        have cx8 := (hbel.cell (p := ⟨blx, offx + k * 16 + 8, none⟩) hbx).trans (hcellx 8 _ rfl)
        have cx9 := (hbel.cell (p := ⟨blx, offx + k * 16 + 9, none⟩) hbx).trans (hcellx 9 _ rfl)
        have cx10 := (hbel.cell (p := ⟨blx, offx + k * 16 + 10, none⟩) hbx).trans (hcellx 10 _ rfl)
        have cx11 := (hbel.cell (p := ⟨blx, offx + k * 16 + 11, none⟩) hbx).trans (hcellx 11 _ rfl)
        have cx12 := (hbel.cell (p := ⟨blx, offx + k * 16 + 12, none⟩) hbx).trans (hcellx 12 _ rfl)
        have cx13 := (hbel.cell (p := ⟨blx, offx + k * 16 + 13, none⟩) hbx).trans (hcellx 13 _ rfl)
        have cx14 := (hbel.cell (p := ⟨blx, offx + k * 16 + 14, none⟩) hbx).trans (hcellx 14 _ rfl)
        have cx15 := (hbel.cell (p := ⟨blx, offx + k * 16 + 15, none⟩) hbx).trans (hcellx 15 _ rfl)
        have cy0 := (hbel.cell (p := ⟨bly, offy + k * 16, none⟩) hby).trans (hcelly 0 _ rfl)
        have cy1 := (hbel.cell (p := ⟨bly, offy + k * 16 + 1, none⟩) hby).trans (hcelly 1 _ rfl)
        have cy2 := (hbel.cell (p := ⟨bly, offy + k * 16 + 2, none⟩) hby).trans (hcelly 2 _ rfl)
        have cy3 := (hbel.cell (p := ⟨bly, offy + k * 16 + 3, none⟩) hby).trans (hcelly 3 _ rfl)
        have cy4 := (hbel.cell (p := ⟨bly, offy + k * 16 + 4, none⟩) hby).trans (hcelly 4 _ rfl)
        have cy5 := (hbel.cell (p := ⟨bly, offy + k * 16 + 5, none⟩) hby).trans (hcelly 5 _ rfl)
        have cy6 := (hbel.cell (p := ⟨bly, offy + k * 16 + 6, none⟩) hby).trans (hcelly 6 _ rfl)
        have cy7 := (hbel.cell (p := ⟨bly, offy + k * 16 + 7, none⟩) hby).trans (hcelly 7 _ rfl)
        have cy8 := (hbel.cell (p := ⟨bly, offy + k * 16 + 8, none⟩) hby).trans (hcelly 8 _ rfl)
        have cy9 := (hbel.cell (p := ⟨bly, offy + k * 16 + 9, none⟩) hby).trans (hcelly 9 _ rfl)
        have cy10 := (hbel.cell (p := ⟨bly, offy + k * 16 + 10, none⟩) hby).trans (hcelly 10 _ rfl)
        have cy11 := (hbel.cell (p := ⟨bly, offy + k * 16 + 11, none⟩) hby).trans (hcelly 11 _ rfl)
        have cy12 := (hbel.cell (p := ⟨bly, offy + k * 16 + 12, none⟩) hby).trans (hcelly 12 _ rfl)
        have cy13 := (hbel.cell (p := ⟨bly, offy + k * 16 + 13, none⟩) hby).trans (hcelly 13 _ rfl)
        have cy14 := (hbel.cell (p := ⟨bly, offy + k * 16 + 14, none⟩) hby).trans (hcelly 14 _ rfl)
        have cy15 := (hbel.cell (p := ⟨bly, offy + k * 16 + 15, none⟩) hby).trans (hcelly 15 _ rfl)
        clear hcellx hcelly hux huy g5x g6x g6ex g7ex g5y g6y g6ey g7ey hex hey hq
        generalize l[k].kind = gx0 at HC cx0
        generalize l[k].name = gx1 at HC cx1
        generalize l[k].at_ = gx2 at HC cx2
        generalize l[k].line = gx3 at HC cx3
        generalize l[k].col = gx4 at HC cx4
        generalize l[k].params.length = gx5 at HC cx5
        generalize l[k].cons.length = gx6 at HC cx6
        generalize l[k].rc = gx7 at HC cx7
        generalize l[k].e.kind = gx8 at HC cx8
        generalize l[k].e.s = gx9 at HC cx9
        generalize l[k].e.n = gx10 at HC cx10
        generalize l[k].e.at_ = gx11 at HC cx11
        generalize l[k].e.line = gx12 at HC cx12
        generalize l[k].e.col = gx13 at HC cx13
        generalize l[k].e.l.length = gx14 at HC cx14
        generalize l[k].e.arms.length = gx15 at HC cx15
        generalize m[k].kind = gy0 at HC cy0
        generalize m[k].name = gy1 at HC cy1
        generalize m[k].at_ = gy2 at HC cy2
        generalize m[k].line = gy3 at HC cy3
        generalize m[k].col = gy4 at HC cy4
        generalize m[k].params.length = gy5 at HC cy5
        generalize m[k].cons.length = gy6 at HC cy6
        generalize m[k].rc = gy7 at HC cy7
        generalize m[k].e.kind = gy8 at HC cy8
        generalize m[k].e.s = gy9 at HC cy9
        generalize m[k].e.n = gy10 at HC cy10
        generalize m[k].e.at_ = gy11 at HC cy11
        generalize m[k].e.line = gy12 at HC cy12
        generalize m[k].e.col = gy13 at HC cy13
        generalize m[k].e.l.length = gy14 at HC cy14
        generalize m[k].e.arms.length = gy15 at HC cy15
        have hly : bly < wr.heap.size := by omega
        have ky : (k : Int) < (m.length : Int) := by omega
        have k0 : (0 : Int) ≤ (k : Int) := by omega
        obtain ⟨wo, hwo⟩ : ∃ wo : World, wo = wr := ⟨_, rfl⟩
        subst hwo
        go_upto_region 5 with fail
        go_cut [7, 8] (fun v7 v8 wx => v7 = .int .i64 k ∧ v8 = .pointer (some ⟨wo.heap.size, 0, none⟩) ∧ Hid (wx.heap.size = wo.heap.size + 1 ∧ Below wo.heap.size wo wx ∧ Blk wx wo.heap.size #[.int .u8 gx0, .string gx1, .int .i64 gx2, .int .i64 gx3, .int .i64 gx4, .slice a5x gx5 d5x, .slice a6x gx6 d6x, .bool gx7, .int .u8 gx8, .string gx9, .int .i64 gx10, .int .i64 gx11, .int .i64 gx12, .int .i64 gx13, .slice a6ex gx14 d6ex, .slice a7ex gx15 d7ex] 40))
        case first => as_aux_lemma =>
          go_wp2_with fail
          go_meet
          exact ⟨rfl, rfl, Lib.hid ⟨by simp, (Below.refl _ _).alloc (Nat.le_refl _) _, Blk.new _ _ _ _ rfl⟩⟩
        case rest => as_aux_lemma =>
          obtain ⟨rfl, rfl, HC1⟩ := hcut
          obtain ⟨w1, hw1⟩ : ∃ w1 : World, w1 = wc := ⟨_, rfl⟩
          subst hw1
          have hbel1 := HC1.out.2.1
          have hsz1 : wo.heap.size < w1.heap.size := by have := HC1.out.1; omega
          have hb1w : Below w.heap.size w w1 := hbel.trans (hbel1.mono hsz0)
          have ey0 := (hbel1.cell (p := ⟨bly, offy + k * 16, none⟩) hly).trans cy0
          have ey1 := (hbel1.cell (p := ⟨bly, offy + k * 16 + 1, none⟩) hly).trans cy1
          have ey2 := (hbel1.cell (p := ⟨bly, offy + k * 16 + 2, none⟩) hly).trans cy2
          have ey3 := (hbel1.cell (p := ⟨bly, offy + k * 16 + 3, none⟩) hly).trans cy3
          have ey4 := (hbel1.cell (p := ⟨bly, offy + k * 16 + 4, none⟩) hly).trans cy4
          have ey5 := (hbel1.cell (p := ⟨bly, offy + k * 16 + 5, none⟩) hly).trans cy5
          have ey6 := (hbel1.cell (p := ⟨bly, offy + k * 16 + 6, none⟩) hly).trans cy6
          have ey7 := (hbel1.cell (p := ⟨bly, offy + k * 16 + 7, none⟩) hly).trans cy7
          have ey8 := (hbel1.cell (p := ⟨bly, offy + k * 16 + 8, none⟩) hly).trans cy8
          have ey9 := (hbel1.cell (p := ⟨bly, offy + k * 16 + 9, none⟩) hly).trans cy9
          have ey10 := (hbel1.cell (p := ⟨bly, offy + k * 16 + 10, none⟩) hly).trans cy10
          have ey11 := (hbel1.cell (p := ⟨bly, offy + k * 16 + 11, none⟩) hly).trans cy11
          have ey12 := (hbel1.cell (p := ⟨bly, offy + k * 16 + 12, none⟩) hly).trans cy12
          have ey13 := (hbel1.cell (p := ⟨bly, offy + k * 16 + 13, none⟩) hly).trans cy13
          have ey14 := (hbel1.cell (p := ⟨bly, offy + k * 16 + 14, none⟩) hly).trans cy14
          have ey15 := (hbel1.cell (p := ⟨bly, offy + k * 16 + 15, none⟩) hly).trans cy15
          clear cx0 cy0 cx1 cy1 cx2 cy2 cx3 cy3 cx4 cy4 cx5 cy5 cx6 cy6 cx7 cy7 cx8 cy8 cx9 cy9 cx10 cy10 cx11 cy11 cx12 cy12 cx13 cy13 cx14 cy14 cx15 cy15
          have hly1 : bly < w1.heap.size := by omega
          go_upto_region 6 with fail
          go_cut [9] (fun v9 wx => v9 = .pointer (some ⟨w1.heap.size, 0, none⟩) ∧ Hid (Below w.heap.size w wx ∧ w1.heap.size < wx.heap.size ∧ Blk wx wo.heap.size #[.int .u8 gx0, .string gx1, .int .i64 gx2, .int .i64 gx3, .int .i64 gx4, .slice a5x gx5 d5x, .slice a6x gx6 d6x, .bool gx7, .int .u8 gx8, .string gx9, .int .i64 gx10, .int .i64 gx11, .int .i64 gx12, .int .i64 gx13, .slice a6ex gx14 d6ex, .slice a7ex gx15 d7ex] 40 ∧ Blk wx w1.heap.size #[.int .u8 gy0, .string gy1, .int .i64 gy2, .int .i64 gy3, .int .i64 gy4, .slice a5y gy5 d5y, .slice a6y gy6 d6y, .bool gy7, .int .u8 gy8, .string gy9, .int .i64 gy10, .int .i64 gy11, .int .i64 gy12, .int .i64 gy13, .slice a6ey gy14 d6ey, .slice a7ey gy15 d7ey] 40))
          case first => as_aux_lemma =>
            go_wp2_with fail
            go_meet
            exact ⟨rfl, Lib.hid ⟨hb1w.alloc (by omega) _, by simp, HC1.out.2.2.alloc _, Blk.new _ _ _ _ rfl⟩⟩
          case rest => as_aux_lemma =>
            obtain ⟨rfl, HC2⟩ := hcut
            obtain ⟨w2, hw2⟩ : ∃ w2 : World, w2 = wc := ⟨_, rfl⟩
            subst hw2
            have hb2w := HC2.out.1
            have hsz2 := HC2.out.2.1
            have zx0 : w2.cell? ⟨wo.heap.size, 0, none⟩ = some (.int .u8 gx0) := (HC2.out.2.2.1.cell 0).trans rfl
            have zx1 : w2.cell? ⟨wo.heap.size, 1, none⟩ = some (.string gx1) := (HC2.out.2.2.1.cell 1).trans rfl
            have zx2 : w2.cell? ⟨wo.heap.size, 2, none⟩ = some (.int .i64 gx2) := (HC2.out.2.2.1.cell 2).trans rfl
            have zx3 : w2.cell? ⟨wo.heap.size, 3, none⟩ = some (.int .i64 gx3) := (HC2.out.2.2.1.cell 3).trans rfl
            have zx4 : w2.cell? ⟨wo.heap.size, 4, none⟩ = some (.int .i64 gx4) := (HC2.out.2.2.1.cell 4).trans rfl
            have zx5 : w2.cell? ⟨wo.heap.size, 5, none⟩ = some (.slice a5x gx5 d5x) := (HC2.out.2.2.1.cell 5).trans rfl
            have zx6 : w2.cell? ⟨wo.heap.size, 6, none⟩ = some (.slice a6x gx6 d6x) := (HC2.out.2.2.1.cell 6).trans rfl
            have zx7 : w2.cell? ⟨wo.heap.size, 7, none⟩ = some (.bool gx7) := (HC2.out.2.2.1.cell 7).trans rfl
            have zx8 : w2.cell? ⟨wo.heap.size, 8, none⟩ = some (.int .u8 gx8) := (HC2.out.2.2.1.cell 8).trans rfl
            have zx9 : w2.cell? ⟨wo.heap.size, 9, none⟩ = some (.string gx9) := (HC2.out.2.2.1.cell 9).trans rfl
            have zx10 : w2.cell? ⟨wo.heap.size, 10, none⟩ = some (.int .i64 gx10) := (HC2.out.2.2.1.cell 10).trans rfl
            have zx11 : w2.cell? ⟨wo.heap.size, 11, none⟩ = some (.int .i64 gx11) := (HC2.out.2.2.1.cell 11).trans rfl
            have zx12 : w2.cell? ⟨wo.heap.size, 12, none⟩ = some (.int .i64 gx12) := (HC2.out.2.2.1.cell 12).trans rfl
            have zx13 : w2.cell? ⟨wo.heap.size, 13, none⟩ = some (.int .i64 gx13) := (HC2.out.2.2.1.cell 13).trans rfl
            have zx14 : w2.cell? ⟨wo.heap.size, 14, none⟩ = some (.slice a6ex gx14 d6ex) := (HC2.out.2.2.1.cell 14).trans rfl
            have zx15 : w2.cell? ⟨wo.heap.size, 15, none⟩ = some (.slice a7ex gx15 d7ex) := (HC2.out.2.2.1.cell 15).trans rfl
            have zy0 : w2.cell? ⟨w1.heap.size, 0, none⟩ = some (.int .u8 gy0) := (HC2.out.2.2.2.cell 0).trans rfl
            have zy1 : w2.cell? ⟨w1.heap.size, 1, none⟩ = some (.string gy1) := (HC2.out.2.2.2.cell 1).trans rfl
            have zy2 : w2.cell? ⟨w1.heap.size, 2, none⟩ = some (.int .i64 gy2) := (HC2.out.2.2.2.cell 2).trans rfl
            have zy3 : w2.cell? ⟨w1.heap.size, 3, none⟩ = some (.int .i64 gy3) := (HC2.out.2.2.2.cell 3).trans rfl
            have zy4 : w2.cell? ⟨w1.heap.size, 4, none⟩ = some (.int .i64 gy4) := (HC2.out.2.2.2.cell 4).trans rfl
            have zy5 : w2.cell? ⟨w1.heap.size, 5, none⟩ = some (.slice a5y gy5 d5y) := (HC2.out.2.2.2.cell 5).trans rfl
            have zy6 : w2.cell? ⟨w1.heap.size, 6, none⟩ = some (.slice a6y gy6 d6y) := (HC2.out.2.2.2.cell 6).trans rfl
            have zy7 : w2.cell? ⟨w1.heap.size, 7, none⟩ = some (.bool gy7) := (HC2.out.2.2.2.cell 7).trans rfl
            have zy8 : w2.cell? ⟨w1.heap.size, 8, none⟩ = some (.int .u8 gy8) := (HC2.out.2.2.2.cell 8).trans rfl
            have zy9 : w2.cell? ⟨w1.heap.size, 9, none⟩ = some (.string gy9) := (HC2.out.2.2.2.cell 9).trans rfl
            have zy10 : w2.cell? ⟨w1.heap.size, 10, none⟩ = some (.int .i64 gy10) := (HC2.out.2.2.2.cell 10).trans rfl
            have zy11 : w2.cell? ⟨w1.heap.size, 11, none⟩ = some (.int .i64 gy11) := (HC2.out.2.2.2.cell 11).trans rfl
            have zy12 : w2.cell? ⟨w1.heap.size, 12, none⟩ = some (.int .i64 gy12) := (HC2.out.2.2.2.cell 12).trans rfl
            have zy13 : w2.cell? ⟨w1.heap.size, 13, none⟩ = some (.int .i64 gy13) := (HC2.out.2.2.2.cell 13).trans rfl
            have zy14 : w2.cell? ⟨w1.heap.size, 14, none⟩ = some (.slice a6ey gy14 d6ey) := (HC2.out.2.2.2.cell 14).trans rfl
            have zy15 : w2.cell? ⟨w1.heap.size, 15, none⟩ = some (.slice a7ey gy15 d7ey) := (HC2.out.2.2.2.cell 15).trans rfl
            clear ey0 ey1 ey2 ey3 ey4 ey5 ey6 ey7 ey8 ey9 ey10 ey11 ey12 ey13 ey14 ey15
            go_upto_region 7 with fail
            go_cut [30] (fun v30 wx => v30 = .bool (!q) ∧ Below w.heap.size w wx)
            case first => as_aux_lemma =>
              go_wp2_with fail
              refine (HC.out _ hb2w).mono ?_
              rintro e w3 ⟨rfl, hb3⟩
              have hfin : Below w.heap.size w w3 := hb2w.trans (hb3.mono hb2w.size)
              clear hb3
              go_wp2
              go_meet
              exact ⟨rfl, hfin⟩
            case rest => as_aux_lemma =>
              obtain ⟨rfl, hfin⟩ := hcut
              clear zx0 zy0 zx1 zy1 zx2 zy2 zx3 zy3 zx4 zy4 zx5 zy5 zx6 zy6 zx7 zy7 zx8 zy8 zx9 zy9 zx10 zy10 zx11 zy11 zx12 zy12 zx13 zy13 zx14 zy14 zx15 zy15 HC
              cases q
              · have HE2 := Lib.hid (show eqL p l m = false by rw [HE.out, HS.out]; rfl)
                go_wp2
                go_ret
                exact ⟨ret_b HE2.out.symm, hfin⟩
              · have HE2 := Lib.hid (show eqL p l m = eqL p (l.drop (k + 1)) (m.drop (k + 1)) by rw [HE.out, HS.out]; rfl)
                go_wp2
                go_roundw
                case rel => exact ⟨k + 1, hltx, by go_num, HE2, hfin⟩
                case measure => simp [intOf]; omega
      · have e1 : decide ((k : Int) < (l.length : Int)) = false := decide_eq_false (by omega)
        go_wp2
        go_ret
        exact ⟨ret_b (by rw [HE.out, eqL_end p l m k (by omega) (by have := HLEN.out; omega)]), hbel⟩
  · have t0 : ((l.length : Int) != (m.length : Int)) = true := by simp; omega
    have HE2 := Lib.hid (eqL_len p l m hlen)
    go_enter Tryz.func113, Tryz.ntmps113
    go_wp2
    go_ret
    exact ⟨ret_b HE2.out.symm, Below.refl _ _⟩

set_option maxHeartbeats 1000000 in
theorem alike_SDecl (l m : List SDecl) (v u : Value) (g : FuncId) (caps : Array Value) (p : SDecl → SDecl → Bool) (w : World) (hn : l.length ≤ 1048576) (hin : Enters Tryz.prog g) (hr : Rd w w.heap.size v (.list 16 l.length (l.flatMap SDecl.d))) (hr2 : Rd w w.heap.size u (.list 16 m.length (m.flatMap SDecl.d)))
    (hp : ∀ (i : Nat) (h : i < l.length) (h2 : i < m.length) (W : World) (us vs : List Value), Below w.heap.size w W → Rds w w.heap.size us (l[i]'h).d → Rds w w.heap.size vs (m[i]'h2).d → Calls Tryz.prog g (#[.agg us.toArray, .agg vs.toArray] ++ caps) W fun e w' => e = .returned (.bool (p (l[i]'h) (m[i]'h2))) ∧ Below W.heap.size W w') :
    Calls Tryz.prog 50 #[v, u, .func (.func g) #[] caps] w fun e w' => e = .returned (.bool (eqL p l m)) ∧ Below w.heap.size w w' := by
  have HF := Lib.hid (eqf_SDecl l m v u g caps p w hn hin hr hr2 hp)
  obtain ⟨a, cap, rfl⟩ := hr.slice_inv
  obtain ⟨a', cap', rfl⟩ := hr2.slice_inv
  clear hp hr hr2
  go_enter Tryz.func50, Tryz.ntmps50
  go_wp2_with fail
  refine HF.out.mono ?_
  rintro e w2 ⟨rfl, hb2⟩
  go_wp2
  go_ret
  exact ⟨rfl, hb2⟩
end Go.Proofs.YtnneooidkbhbeaaGreatDoor
