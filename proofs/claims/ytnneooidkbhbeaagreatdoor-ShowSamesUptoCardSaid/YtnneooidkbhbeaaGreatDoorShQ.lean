/- Contracts: show.Same. -/
import Derived.Test.YtnneooidkbhbeaaGreatDoorShD
import Derived.Test.YtnneooidkbhbeaaGreatDoorEqd
import Derived.Test.YtnneooidkbhbeaaGreatDoorShZ
set_option linter.unusedVariables false
set_option linter.unusedSimpArgs false
namespace Go.Proofs.YtnneooidkbhbeaaGreatDoor
open Go.RowKit

set_option maxHeartbeats 1000000 in
theorem same_any (l m : List SDecl) (v u : Value) (w : World) (hl : DSmall l) (hr : Rd w w.heap.size v (.list 16 l.length (l.flatMap SDecl.d))) (hr2 : Rd w w.heap.size u (.list 16 m.length (m.flatMap SDecl.d))) :
    Calls Tryz.prog 18 #[v, u] w fun e w' => e = .returned (.bool (eqL SDecl.same l m)) ∧ Below w.heap.size w w' := by
  have HF := Lib.hid (alike_SDecl l m v u 51 #[] SDecl.same w hl.n enters_Same1 hr hr2
    (fun i h h2 W' us vs hW' hu hv => by
      have := sameDecl_any l[i] m[i] us vs W' (hl.d i h) ((hu.keep hW').mono hW'.size) ((hv.keep hW').mono hW'.size)
      simpa using this))
  obtain ⟨a, cap, rfl⟩ := hr.slice_inv
  obtain ⟨a', cap', rfl⟩ := hr2.slice_inv
  clear hr hr2
  go_enter Tryz.func18, Tryz.ntmps18
  go_wp2_with fail
  refine HF.out.mono ?_
  rintro e w2 ⟨rfl, hb2⟩
  go_wp2
  go_ret
  exact ⟨rfl, hb2⟩
end Go.Proofs.YtnneooidkbhbeaaGreatDoor
/- Contracts of the document's answer for layer 11: Same. Written by gen_shq.py. -/
namespace Go.Proofs.YtnneooidkbhbeaaGreatDoor
open Go.RowKit

set_option maxRecDepth 100000 in
set_option maxHeartbeats 4000000 in
theorem rsame_any (l m : List SDecl) (v u : Value) (w : World) (hl : DSmall l) (hr : Rd w w.heap.size v (.list 16 l.length (l.flatMap SDecl.d))) (hr2 : Rd w w.heap.size u (.list 16 m.length (m.flatMap SDecl.d))) :
    Calls Tryz.prog 19 #[v, u] w fun e w' => e = .returned (.bool (eqL SDecl.same l m)) ∧ Below w.heap.size w w' := by
  obtain ⟨a, cap, rfl⟩ := hr.slice_inv
  obtain ⟨a', cap', rfl⟩ := hr2.slice_inv
  have hn := hl.n
  have HD := Lib.hid hl.d
  clear hl
  by_cases hlen : l.length = m.length
  · have t0 : ((l.length : Int) != (m.length : Int)) = false := by simp [hlen]
    have HLEN := Lib.hid hlen
    clear hlen
    go_enter Tryz.func19, Tryz.ntmps19
    go_wp2
    go_loopw [5] (fun u wr => ∃ k : Nat, k ≤ l.length ∧ u = .int .i64 k ∧ Hid (eqL SDecl.same l m = eqL SDecl.same (l.drop k) (m.drop k)) ∧ Below w.heap.size w wr) (fun u _ => l.length - (intOf u).toNat)
    case atStart => exact ⟨0, Nat.zero_le _, rfl, rfl, Below.refl _ _⟩
    case round =>
      obtain ⟨wo, rfl⟩ : ∃ z, z = wr := ⟨_, rfl⟩
      obtain ⟨k, hk, rfl, HE, hbel⟩ := hrel
      have hsz0 := hbel.size
      by_cases hltx : k < l.length
      · have hlty : k < m.length := by have := HLEN.out; omega
        obtain ⟨blx, offx, cpx, usx, hvx, hbx, hcx, hcellx, hux⟩ := hr.elem SDecl.d_len rfl k hltx (by omega)
        injection hvx with hax hnx hcapx
        subst hax hcapx
        obtain ⟨bly, offy, cpy, usy, hvy, hby, hcy, hcelly, huy⟩ := hr2.elem SDecl.d_len rfl k hlty (by omega)
        injection hvy with hay hny hcapy
        subst hay hcapy
        have hsm := HD.out k hltx
        have HC := Lib.hid (fun (W : World) (hW : Below w.heap.size w W) => rsameDecl_any l[k] m[k] usx usy W hsm ((hux.keep hW).mono hW.size) ((huy.keep hW).mono hW.size))
        have HS := Lib.hid (eqL_drop SDecl.same l m k hltx hlty)
        obtain ⟨q, hq⟩ : ∃ q, SDecl.same l[k] m[k] = q := ⟨_, rfl⟩
        rw [hq] at HC HS
        obtain ⟨v5x, v6x, uex, rfl, g5x, g6x, hex, -, -⟩ := SDecl.cells hux
        obtain ⟨a5x, d5x, rfl⟩ := g5x.slice_inv
        obtain ⟨a6x, d6x, rfl⟩ := g6x.slice_inv
        obtain ⟨v6ex, v7ex, rfl, g6ex, g7ex, -⟩ := SExpr.cells hex
        obtain ⟨a6ex, d6ex, rfl⟩ := g6ex.slice_inv
        obtain ⟨a7ex, d7ex, rfl⟩ := g7ex.slice_inv
        obtain ⟨v5y, v6y, uey, rfl, g5y, g6y, hey, -, -⟩ := SDecl.cells huy
        obtain ⟨a5y, d5y, rfl⟩ := g5y.slice_inv
        obtain ⟨a6y, d6y, rfl⟩ := g6y.slice_inv
        obtain ⟨v6ey, v7ey, rfl, g6ey, g7ey, -⟩ := SExpr.cells hey
        obtain ⟨a6ey, d6ey, rfl⟩ := g6ey.slice_inv
        obtain ⟨a7ey, d7ey, rfl⟩ := g7ey.slice_inv
        have cx0 := (hbel.cell (p := ⟨blx, offx + k * 16, none⟩) hbx).trans (hcellx 0 _ rfl)
        have cx1 := (hbel.cell (p := ⟨blx, offx + k * 16 + 1, none⟩) hbx).trans (hcellx 1 _ rfl)
        have cx2 := (hbel.cell (p := ⟨blx, offx + k * 16 + 2, none⟩) hbx).trans (hcellx 2 _ rfl)
        have cx3 := (hbel.cell (p := ⟨blx, offx + k * 16 + 3, none⟩) hbx).trans (hcellx 3 _ rfl)
        have cx4 := (hbel.cell (p := ⟨blx, offx + k * 16 + 4, none⟩) hbx).trans (hcellx 4 _ rfl)
        have cx5 := (hbel.cell (p := ⟨blx, offx + k * 16 + 5, none⟩) hbx).trans (hcellx 5 _ rfl)
        have cx6 := (hbel.cell (p := ⟨blx, offx + k * 16 + 6, none⟩) hbx).trans (hcellx 6 _ rfl)
        have cx7 := (hbel.cell (p := ⟨blx, offx + k * 16 + 7, none⟩) hbx).trans (hcellx 7 _ rfl)
        have cx8 := (hbel.cell (p := ⟨blx, offx + k * 16 + 8, none⟩) hbx).trans (hcellx 8 _ rfl)
        have cx9 := (hbel.cell (p := ⟨blx, offx + k * 16 + 9, none⟩) hbx).trans (hcellx 9 _ rfl)
        have cx10 := (hbel.cell (p := ⟨blx, offx + k * 16 + 10, none⟩) hbx).trans (hcellx 10 _ rfl)
        have cx11 := (hbel.cell (p := ⟨blx, offx + k * 16 + 11, none⟩) hbx).trans (hcellx 11 _ rfl)
        have cx12 := (hbel.cell (p := ⟨blx, offx + k * 16 + 12, none⟩) hbx).trans (hcellx 12 _ rfl)
        have cx13 := (hbel.cell (p := ⟨blx, offx + k * 16 + 13, none⟩) hbx).trans (hcellx 13 _ rfl)
        have cx14 := (hbel.cell (p := ⟨blx, offx + k * 16 + 14, none⟩) hbx).trans (hcellx 14 _ rfl)
        have cx15 := (hbel.cell (p := ⟨blx, offx + k * 16 + 15, none⟩) hbx).trans (hcellx 15 _ rfl)
        have cy0 := (hbel.cell (p := ⟨bly, offy + k * 16, none⟩) hby).trans (hcelly 0 _ rfl)
        have cy1 := (hbel.cell (p := ⟨bly, offy + k * 16 + 1, none⟩) hby).trans (hcelly 1 _ rfl)
        have cy2 := (hbel.cell (p := ⟨bly, offy + k * 16 + 2, none⟩) hby).trans (hcelly 2 _ rfl)
        have cy3 := (hbel.cell (p := ⟨bly, offy + k * 16 + 3, none⟩) hby).trans (hcelly 3 _ rfl)
        have cy4 := (hbel.cell (p := ⟨bly, offy + k * 16 + 4, none⟩) hby).trans (hcelly 4 _ rfl)
        have cy5 := (hbel.cell (p := ⟨bly, offy + k * 16 + 5, none⟩) hby).trans (hcelly 5 _ rfl)
        have cy6 := (hbel.cell (p := ⟨bly, offy + k * 16 + 6, none⟩) hby).trans (hcelly 6 _ rfl)
        have cy7 := (hbel.cell (p := ⟨bly, offy + k * 16 + 7, none⟩) hby).trans (hcelly 7 _ rfl)
        have cy8 := (hbel.cell (p := ⟨bly, offy + k * 16 + 8, none⟩) hby).trans (hcelly 8 _ rfl)
        have cy9 := (hbel.cell (p := ⟨bly, offy + k * 16 + 9, none⟩) hby).trans (hcelly 9 _ rfl)
        have cy10 := (hbel.cell (p := ⟨bly, offy + k * 16 + 10, none⟩) hby).trans (hcelly 10 _ rfl)
        have cy11 := (hbel.cell (p := ⟨bly, offy + k * 16 + 11, none⟩) hby).trans (hcelly 11 _ rfl)
        have cy12 := (hbel.cell (p := ⟨bly, offy + k * 16 + 12, none⟩) hby).trans (hcelly 12 _ rfl)
        have cy13 := (hbel.cell (p := ⟨bly, offy + k * 16 + 13, none⟩) hby).trans (hcelly 13 _ rfl)
        have cy14 := (hbel.cell (p := ⟨bly, offy + k * 16 + 14, none⟩) hby).trans (hcelly 14 _ rfl)
        have cy15 := (hbel.cell (p := ⟨bly, offy + k * 16 + 15, none⟩) hby).trans (hcelly 15 _ rfl)
        clear hcellx hcelly hux huy g5x g6x g6ex g7ex g5y g6y g6ey g7ey hex hey hq hsm
        generalize l[k].kind = gx0 at HC cx0
        generalize l[k].name = gx1 at HC cx1
        generalize l[k].at_ = gx2 at HC cx2
        generalize l[k].line = gx3 at HC cx3
        generalize l[k].col = gx4 at HC cx4
        generalize l[k].params.length = gx5 at HC cx5
        generalize l[k].cons.length = gx6 at HC cx6
        generalize l[k].rc = gx7 at HC cx7
        generalize l[k].e.kind = gx8 at HC cx8
        generalize l[k].e.s = gx9 at HC cx9
        generalize l[k].e.n = gx10 at HC cx10
        generalize l[k].e.at_ = gx11 at HC cx11
        generalize l[k].e.line = gx12 at HC cx12
        generalize l[k].e.col = gx13 at HC cx13
        generalize l[k].e.l.length = gx14 at HC cx14
        generalize l[k].e.arms.length = gx15 at HC cx15
        generalize m[k].kind = gy0 at HC cy0
        generalize m[k].name = gy1 at HC cy1
        generalize m[k].at_ = gy2 at HC cy2
        generalize m[k].line = gy3 at HC cy3
        generalize m[k].col = gy4 at HC cy4
        generalize m[k].params.length = gy5 at HC cy5
        generalize m[k].cons.length = gy6 at HC cy6
        generalize m[k].rc = gy7 at HC cy7
        generalize m[k].e.kind = gy8 at HC cy8
        generalize m[k].e.s = gy9 at HC cy9
        generalize m[k].e.n = gy10 at HC cy10
        generalize m[k].e.at_ = gy11 at HC cy11
        generalize m[k].e.line = gy12 at HC cy12
        generalize m[k].e.col = gy13 at HC cy13
        generalize m[k].e.l.length = gy14 at HC cy14
        generalize m[k].e.arms.length = gy15 at HC cy15
        have e1 : decide ((k : Int) < (l.length : Int)) = true := decide_eq_true (by omega)
        have k0 : (0 : Int) ≤ (k : Int) := by omega
        have kx : (k : Int) < (l.length : Int) := by omega
        have ky : (k : Int) < (m.length : Int) := by omega
        go_upto_region 6 with fail
        go_cut [26] (fun v26 wx => v26 = .bool (!q) ∧ Below w.heap.size w wx)
        case first => as_aux_lemma =>
          refine wp_region_segs [8] (by kernel_rfl) (by kernel_rfl) ?_
          rw [wpSegs]
          simp only [List.take_succ_cons, List.take_zero, List.drop_succ_cons, List.drop_zero]
          repeat (go_big_quiet_step (fail))
          refine wpQuiet_nil ?_
          rintro _ ⟨nq, rfl⟩
          go_wp2_with (go_at_call 58; refine (HC.out _ (Below.drewN hbel _)).mono ?_; rintro e w2 ⟨rfl, hb2⟩)
          have hfin : Below w.heap.size w w2 := (Below.drewN hbel _).trans (hb2.mono (Below.drewN hbel _).size)
          clear hb2 cx0 cy0 cx1 cy1 cx2 cy2 cx3 cy3 cx4 cy4 cx5 cy5 cx6 cy6 cx7 cy7 cx8 cy8 cx9 cy9 cx10 cy10 cx11 cy11 cx12 cy12 cx13 cy13 cx14 cy14 cx15 cy15
          show wpSegs _ _ _ _ _ _ _
          rw [wpSegs]
          repeat (go_big_quiet_step (fail))
          refine wpQuiet_nil ?_
          rintro _ ⟨nq2, rfl⟩
          go_wp2
          go_meet
          exact ⟨rfl, Below.drewN hfin _⟩
        case rest => as_aux_lemma =>
          obtain ⟨rfl, hfin⟩ := hcut
          clear cx0 cy0 cx1 cy1 cx2 cy2 cx3 cy3 cx4 cy4 cx5 cy5 cx6 cy6 cx7 cy7 cx8 cy8 cx9 cy9 cx10 cy10 cx11 cy11 cx12 cy12 cx13 cy13 cx14 cy14 cx15 cy15 HC
          cases q
          · have HE2 := Lib.hid (show eqL SDecl.same l m = false by rw [HE.out, HS.out]; rfl)
            go_wp2
            go_ret
            exact ⟨ret_b HE2.out.symm, hfin⟩
          · have HE2 := Lib.hid (show eqL SDecl.same l m = eqL SDecl.same (l.drop (k + 1)) (m.drop (k + 1)) by rw [HE.out, HS.out]; rfl)
            go_wp2
            go_roundw
            case rel => exact ⟨k + 1, hltx, by go_num, HE2, hfin⟩
            case measure => simp [intOf]; omega
      · have e1 : decide ((k : Int) < (l.length : Int)) = false := decide_eq_false (by omega)
        have e1' : decide (k < l.length) = false := decide_eq_false (by omega)
        have HE2 := Lib.hid (show eqL SDecl.same l m = true by rw [HE.out, eqL_end SDecl.same l m k (by omega) (by have := HLEN.out; omega)])
        clear hltx hk
        go_wp2
        go_ret
        exact ⟨ret_b HE2.out.symm, hbel⟩
  · have t0 : ((l.length : Int) != (m.length : Int)) = true := by first | (simp; done) | (simp; omega)
    have HE2 := Lib.hid (eqL_len SDecl.same l m hlen)
    go_enter Tryz.func19, Tryz.ntmps19
    go_wp2
    go_ret
    exact ⟨ret_b HE2.out.symm, Below.refl _ _⟩
end Go.Proofs.YtnneooidkbhbeaaGreatDoor
