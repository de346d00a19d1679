/- Contracts of the document's answer for layer 14: May, if the one for signatures answers. -/
import Derived.Test.YtdhodaefgliphaaGreatDoorRefE
set_option linter.unusedVariables false
set_option linter.unusedSimpArgs false
namespace Go.Proofs.YtdhodaefgliphaaGreatDoor
open Go.RowKit
structure MInv (p : Prog) (n bb hb kb : Nat) (dv cv tv : Value) (w wr : World) (k : Nat) (s1 : Bnd) (tp : Int) : Prop where
 mays : Prog.mayTops p.sig 0 (p.tops.take k) (Bnd.fresh n) = some s1
 of_ : s1.Of n
 holds : Holds wr bb hb 4 s1
 bound : Blk wr kb (bndC dv cv tv n tp bb hb n) 64
 box : Blk wr w.heap.size #[dv, cv, tv, .int .i64 n] 28
 bel : Below w.heap.size w wr
set_option maxRecDepth 100000 in
set_option maxHeartbeats 4000000 in
theorem rmay_any (p : Prog) (us : List Value) (w : World) (hsm : p.Small) (hus : Rds w w.heap.size us p.d)
  (hsig : ∀ (W : World) (vs : List Value), Below w.heap.size w W → Rds W W.heap.size vs p.sig.d → Calls Tryz.prog 15 #[.agg vs.toArray] W fun e w' => e = .returned (.bool p.sig.may) ∧ Below W.heap.size W w') :
  Calls Tryz.prog 7 #[.agg us.toArray] w fun e w' => e = .returned (.bool p.may) ∧ Below w.heap.size w w' := by
 obtain ⟨dv, cv, tv, rfl, gs, gt, wv⟩ := Prog.cells hus
 have GS := Lib.hid gs
 have GT := Lib.hid gt
 have SM := Lib.hid hsm
 have hnt := hsm.nt
 have HD := Lib.hid (fun (W : World) (hW : Below w.heap.size w W) => hsig W [dv, cv] hW ((gs.keep hW).mono hW.size))
 have gc : Rd w w.heap.size cv (.list 4 p.sig.cons.length (p.sig.cons.flatMap Con.d)) := by
  obtain ⟨v0, v1, e, g0, g1⟩ := Sig.cells gs
  simp only [List.cons.injEq, and_true] at e
  obtain ⟨rfl, rfl⟩ := e
  exact g1
 have gd : ∃ a c, dv = .slice a p.sig.datas.length c := by
  obtain ⟨v0, v1, e, g0, g1⟩ := Sig.cells gs
  simp only [List.cons.injEq, and_true] at e
  obtain ⟨rfl, rfl⟩ := e
  exact g0.slice_inv
 have GC := Lib.hid gc
 obtain ⟨ad, cd, rfl⟩ := gd
 obtain ⟨ac, cc, rfl⟩ := gc.slice_inv
 obtain ⟨at_, ct, rfl⟩ := gt.slice_inv
 clear gs gt hsm gc hus hsig
 obtain ⟨dv, hdv⟩ : ∃ v, Value.slice ad p.sig.datas.length cd = v := ⟨_, rfl⟩
 obtain ⟨cv, hcv⟩ : ∃ v, Value.slice ac p.sig.cons.length cc = v := ⟨_, rfl⟩
 simp only [hdv, hcv] at *
 clear hdv hcv
 by_cases hS : p.sig.may = true
 ·rw [hS] at HD
  by_cases h60 : p.tops.length ≤ 60
  ·have t1 : decide ((60 : Int) < (p.tops.length : Int)) = false := decide_eq_false (by omega)
   by_cases hv0 : 0 ≤ p.vars
   ·have t2 : decide (p.vars < 0) = false := decide_eq_false (by omega)
    by_cases hv1 : p.vars ≤ 1048576
    ·have t3 : decide ((1048576 : Int) < p.vars) = false := decide_eq_false (by omega)
     obtain ⟨n, hn⟩ := Int.eq_ofNat_of_zero_le hv0
     have hn1 : n ≤ 1048576 := by omega
     have HM := Lib.hid (Prog.may_at hS h60 hn hn1)
     have hmk := make_bools n (by omega)
     rw [hn] at t2 t3
     have HN := Lib.hid hn
     rw [hn]
     clear hv0 hv1 hS hn
     go_enter Tryz.func7, Tryz.ntmps7
     go_wp2_with fail
     refine (HD.out _ (by (repeat (with_reducible first | exact Below.refl _ _ | refine Below.setCell ?_ ?_ _ | refine Below.alloc ?_ ?_ _ | refine Below.drewN ?_ _ | refine Below.drew ?_)) <;> first | omega | (simp; omega) | (simp; done))).mono ?_
     rintro e w2 ⟨rfl, hb2⟩
     have hsz2 := hb2.size
     have hb3 : Below w.heap.size w w2 := by
      refine Below.trans ?_ (hb2.mono (by first | omega | (simp; omega) | (simp; done)))
      (repeat (with_reducible first | exact Below.refl _ _ | refine Below.setCell ?_ ?_ _ | refine Below.alloc ?_ ?_ _ | refine Below.drewN ?_ _ | refine Below.drew ?_)) <;> first | omega | (simp; omega) | (simp; done)
     have hbx := (Blk.new w _ #[dv, cv, .slice at_ p.tops.length ct, .int .i64 (n : Int)] 28 rfl).below hb2 (by simp)
     have x0 : w2.cell? ⟨w.heap.size, 0, none⟩ = some dv := (hbx.cell 0).trans rfl
     have x1 : w2.cell? ⟨w.heap.size, 1, none⟩ = some cv := (hbx.cell 1).trans rfl
     have x2 : w2.cell? ⟨w.heap.size, 2, none⟩ = some (.slice at_ p.tops.length ct) := (hbx.cell 2).trans rfl
     have x3 : w2.cell? ⟨w.heap.size, 3, none⟩ = some (.int .i64 (n : Int)) := (hbx.cell 3).trans rfl
     have hltb : w.heap.size < w2.heap.size := by simp at hsz2; omega
     have y0 := cell_al1 x0 hltb
     have y1 := cell_al1 x1 hltb
     have y2 := cell_al1 x2 hltb
     have y3 := cell_al1 x3 hltb
     have z0 := cell_al2 x0 hltb
     have z1 := cell_al2 x1 hltb
     have z2 := cell_al2 x2 hltb
     have z3 := cell_al2 x3 hltb
     go_wp2_with fail
     go_region
     ·as_aux_lemma =>
      obtain ⟨bb, hbb⟩ : ∃ x, w2.heap.size + 1 = x := ⟨_, rfl⟩
      obtain ⟨hb, hhb⟩ : ∃ x, w2.heap.size = x := ⟨_, rfl⟩
      obtain ⟨kb, hkb'⟩ : ∃ x, w2.heap.size + 1 + 1 = x := ⟨_, rfl⟩
      obtain ⟨tvv, htv⟩ : ∃ x, Value.slice at_ p.tops.length ct = x := ⟨_, rfl⟩
      obtain ⟨W1, hW1⟩ : ∃ W, (((w2.alloc (.cells (bools (List.replicate n false)) 4)).alloc (.cells (bools (List.replicate n false)) 4)).alloc (.cells #[dv, cv, .slice at_ p.tops.length ct, .int .i64 n, .int .i64 0, .slice (some ⟨w2.heap.size, 0, none⟩) n n, .slice (some ⟨w2.heap.size + 1, 0, none⟩) n n] 64)).drew = W := ⟨_, rfl⟩
      have b0 : Blk W1 w2.heap.size (bools (List.replicate n false)) 4 := by rw [← hW1]; exact Blk.drew (((Blk.new w2 _ _ _ rfl).alloc _).alloc _)
      have b1 : Blk W1 (w2.heap.size + 1) (bools (List.replicate n false)) 4 := by rw [← hW1]; exact Blk.drew ((Blk.new _ _ _ _ (by simp)).alloc _)
      have hk1 : Blk W1 kb (bndC dv cv tvv n 0 bb hb n) 64 := by rw [← hW1, ← hbb, ← hhb, ← hkb', ← htv]; exact Blk.drew (Blk.new _ _ _ _ (by simp))
      have hh1 : Holds W1 bb hb 4 (Bnd.fresh n) := ⟨by rw [← hbb]; exact b1, by rw [← hhb]; exact b0⟩
      have hbl1 : Below w.heap.size w W1 := by
       rw [← hW1]
       have hw2 : w.heap.size ≤ w2.heap.size := by omega
       (repeat (with_reducible first | exact hb3 | refine Below.setCell ?_ ?_ _ | refine Below.alloc ?_ ?_ _ | refine Below.drewN ?_ _ | refine Below.drew ?_)) <;> first | omega | (simp; omega) | (simp; done)
      have hszW : W1.heap.size = w2.heap.size + 3 := by rw [← hW1]; simp
      have hx1 : Blk W1 w.heap.size #[dv, cv, tvv, .int .i64 n] 28 := by rw [← hW1, ← htv]; exact Blk.drew (((hbx.alloc _).alloc _).alloc _)
      have hne1 : bb ≠ hb := by omega
      have hne2 : kb ≠ bb := by omega
      have hne3 : kb ≠ hb := by omega
      have hB1 : w.heap.size ≤ bb ∧ w.heap.size ≤ hb ∧ w.heap.size ≤ kb ∧ w.heap.size < W1.heap.size := by omega
      have hBl : w.heap.size ≠ bb ∧ w.heap.size ≠ hb ∧ w.heap.size ≠ kb := by omega
      have HB1 := Lib.hid hB1
      have HMI0 := Lib.hid (show MInv p n bb hb kb dv cv tvv w W1 0 (Bnd.fresh n) 0 from ⟨rfl, ⟨by simp [Bnd.fresh], by simp [Bnd.fresh]⟩, hh1, hk1, hx1, hbl1⟩)
      rw [hW1]
      simp only [hkb']
      clear hW1 b0 b1 hbb hhb hkb' hszW x0 x1 x2 x3 y0 y1 y2 y3 z0 z1 z2 z3 hb2 hbx hsz2 hb3 hmk hltb hk1 hh1 hbl1 hx1
      go_wp2
      go_loopw [4] (fun u wr => ∃ (k : Nat) (s1 : Bnd) (tp : Int), k ≤ p.tops.length ∧ u = .int .i64 k ∧ Hid (MInv p n bb hb kb dv cv tvv w wr k s1 tp)) (fun u _ => p.tops.length - (intOf u).toNat)
      case atStart => exact ⟨0, Bnd.fresh n, 0, Nat.zero_le _, rfl, HMI0⟩
      case round =>
       obtain ⟨k, s1, tp, hkl, rfl, HMI⟩ := hrel
       have hbel := HMI.out.bel
       have hszr := hbel.size
       have x2 : wr.cell? ⟨w.heap.size, 2, none⟩ = some (.slice at_ p.tops.length ct) := (HMI.out.box.cell 2).trans (congrArg some htv.symm)
       by_cases hlt : k < p.tops.length
       ·obtain ⟨b, off, cap', us', hv, hblt, hc, hcell, hus⟩ := GT.out.elem Top.d_len rfl k hlt (by omega)
        injection hv with ha hn' hcap
        subst ha hcap
        have hcl : ∀ W, Below w.heap.size w W → ∀ j u, us'[j]? = some u → W.cell? ⟨b, off + k * 11 + j, none⟩ = some u := fun W hW j u hj => (hW.cell (p := ⟨b, off + k * 11 + j, none⟩) hblt).trans (hcell j u hj)
        obtain ⟨ue, rfl, hue, -⟩ := Top.cells hus
        have HUE := Lib.hid hue
        have hsz := SM.out.top k hlt
        have HT := Lib.hid (Prog.mayTops_take p.sig hlt HMI.out.mays)
        obtain ⟨E, hE⟩ : ∃ E, (p.tops[k]).e = E := ⟨_, rfl⟩
        obtain ⟨R, hR⟩ : ∃ R, (p.tops[k]).rc = R := ⟨_, rfl⟩
        simp only [hE, hR] at HUE hsz HT hcl hue
        obtain ⟨v7, v8, rfl, g7, g8, -⟩ := Core.cells hue
        obtain ⟨a7, c7, rfl⟩ := g7.slice_inv
        obtain ⟨a8, c8, rfl⟩ := g8.slice_inv
        have g4 : wr.cell? ⟨kb, 4, none⟩ = some (.int .i64 tp) := (HMI.out.bound.cell 4).trans rfl
        have f4 : wr.frozen? ⟨kb, 4, none⟩ = false := HMI.out.bound.free 4
        have hcore := fun (W : World) (tp' : Int) (hkW : Blk W kb (bndC dv cv tvv n tp' bb hb n) 64) (hbxW : Blk W w.heap.size #[dv, cv, tvv, .int .i64 n] 28) (hbW : Below w.heap.size w W) (hhW : Holds W bb hb 4 s1) =>
         (rcore_any p.sig tp' kb bb hb n w.heap.size dv cv tvv n SM.out.sig.nc (fun i h => (SM.out.sig.con i h).2.1) HB1.out.1 HB1.out.2.1 hne1 hne2 hne3 hn1 E.size E _ s1 W (Nat.le_refl _) hsz hkW hbW.size (GC.out.keep hbW) (HUE.out.keep hbW) hhW HMI.out.of_).mono fun e w' (h : Ans (E.may p.sig tp' s1) bb hb n W e w') =>
           (⟨h, h.2.1.blk hkW (Xs.not hne2 hne3), hbW.trans (h.2.1.low (fun q hq => by rcases hq with rfl | rfl; exact HB1.out.1; exact HB1.out.2.1) hbW.size), h.2.1.blk hbxW (Xs.not hBl.1 hBl.2.1)⟩ : Ans (E.may p.sig tp' s1) bb hb n W e w' ∧ Blk w' kb (bndC dv cv tvv n tp' bb hb n) 64 ∧ Below w.heap.size w w' ∧ Blk w' w.heap.size #[dv, cv, tvv, .int .i64 n] 28)
        have HC := Lib.hid hcore
        obtain ⟨W2, hW2⟩ : ∃ W, wr.setCell ⟨kb, 4, none⟩ (.int .i64 k) = W := ⟨_, rfl⟩
        have hbl2 : Below w.heap.size w W2 := by rw [← hW2]; exact hbel.setCell (p := ⟨kb, 4, none⟩) HB1.out.2.2.1 _
        have hk2 : Blk W2 kb (bndC dv cv tvv n k bb hb n) 64 := by rw [← hW2]; exact HMI.out.bound.set 4 _
        have hx2 : Blk W2 w.heap.size #[dv, cv, tvv, .int .i64 n] 28 := by rw [← hW2]; exact HMI.out.box.setOther (a := ⟨kb, 4, none⟩) hBl.2.2 _
        have hh2 : Holds W2 bb hb 4 s1 := by rw [← hW2]; exact ⟨HMI.out.holds.been.setOther (a := ⟨kb, 4, none⟩) (Ne.symm hne2) _, HMI.out.holds.here.setOther (a := ⟨kb, 4, none⟩) (Ne.symm hne3) _⟩
        have z2 : W2.cell? ⟨w.heap.size, 2, none⟩ = some (.slice (some ⟨b, off, none⟩) p.tops.length ct) := (hx2.cell 2).trans (congrArg some htv.symm)
        have z4 : W2.cell? ⟨kb, 4, none⟩ = some (.int .i64 k) := (hk2.cell 4).trans rfl
        have zf : W2.frozen? ⟨kb, 4, none⟩ = false := hk2.free 4
        have m1 := hcl W2 hbl2 1 _ rfl
        clear hcell hus hue g7 g8 hcore hE
        cases R
        ·have HT2 := Lib.hid (show Prog.mayTops p.sig 0 (p.tops.take (k + 1)) (Bnd.fresh n) = E.may p.sig (k : Int) s1 by rw [HT.out]; simp)
         have m2 := hcl W2 hbl2 2 _ rfl
         have m3 := hcl W2 hbl2 3 _ rfl
         have m4 := hcl W2 hbl2 4 _ rfl
         have m5 := hcl W2 hbl2 5 _ rfl
         have m6 := hcl W2 hbl2 6 _ rfl
         have m7 := hcl W2 hbl2 7 _ rfl
         have m8 := hcl W2 hbl2 8 _ rfl
         have m9 := hcl W2 hbl2 9 _ rfl
         have m10 := hcl W2 hbl2 10 _ rfl
         clear HT hcl htv hR
         go_wp2_with fail
         refine (HC.out _ (k : Int) hk2 hx2 hbl2 hh2).mono ?_
         rintro e w3 ⟨⟨rfl, hk3, s3, hh3, ho3, hs3⟩, hkb3, hbl3, hbx3⟩
         have HK3 := Lib.hid hkb3
         cases hm : E.may p.sig (k : Int) s1 with
         | none =>
           have hmn : p.may = false := by rw [HM.out, Prog.mayTops_stop p.sig hlt HMI.out.mays (HT2.out.trans hm)]; rfl
           have HE := Lib.hid hmn
           clear hmn hm hk3 hh3 ho3 hs3 hkb3
           go_wp2
           go_ret
           exact ⟨ret_b (by rw [HE.out]), hbl3⟩
         | some s4 =>
           obtain rfl := hs3 s4 hm
           have HI2 := Lib.hid (show MInv p n bb hb kb dv cv tvv w w3 (k + 1) s3 (k : Int) from ⟨HT2.out.trans hm, ho3, hh3, hkb3, hbx3, hbl3⟩)
           clear hm hk3 hh3 ho3 hs3 hkb3
           go_wp2
           go_roundw
           case rel => exact ⟨k + 1, s3, (k : Int), hlt, by go_num, HI2⟩
           case measure => simp [intOf]; omega
        ·obtain ⟨W3, hW3⟩ : ∃ W, W2.setCell ⟨kb, 4, none⟩ (.int .i64 ((k : Int) + 1)) = W := ⟨_, rfl⟩
         have hbl3 : Below w.heap.size w W3 := by rw [← hW3]; exact hbl2.setCell (p := ⟨kb, 4, none⟩) HB1.out.2.2.1 _
         have hk3 : Blk W3 kb (bndC dv cv tvv n ((k : Int) + 1) bb hb n) 64 := by rw [← hW3]; exact hk2.set 4 _
         have hx3 : Blk W3 w.heap.size #[dv, cv, tvv, .int .i64 n] 28 := by rw [← hW3]; exact hx2.setOther (a := ⟨kb, 4, none⟩) hBl.2.2 _
         have hh3 : Holds W3 bb hb 4 s1 := by rw [← hW3]; exact ⟨hh2.been.setOther (a := ⟨kb, 4, none⟩) (Ne.symm hne2) _, hh2.here.setOther (a := ⟨kb, 4, none⟩) (Ne.symm hne3) _⟩
         have z23 : W3.cell? ⟨w.heap.size, 2, none⟩ = some (.slice (some ⟨b, off, none⟩) p.tops.length ct) := (hx3.cell 2).trans (congrArg some htv.symm)
         have m2 := hcl W3 hbl3 2 _ rfl
         have m3 := hcl W3 hbl3 3 _ rfl
         have m4 := hcl W3 hbl3 4 _ rfl
         have m5 := hcl W3 hbl3 5 _ rfl
         have m6 := hcl W3 hbl3 6 _ rfl
         have m7 := hcl W3 hbl3 7 _ rfl
         have m8 := hcl W3 hbl3 8 _ rfl
         have m9 := hcl W3 hbl3 9 _ rfl
         have m10 := hcl W3 hbl3 10 _ rfl
         clear hcl htv hR
         by_cases h5 : E.kind = 5
         ·have e1 : (E.kind != 5) = false := by simp [h5]
          have HT2 := Lib.hid (show Prog.mayTops p.sig 0 (p.tops.take (k + 1)) (Bnd.fresh n) = E.may p.sig ((k : Int) + 1) s1 by rw [HT.out]; simp [h5])
          clear HT h5
          go_wp2_with fail
          refine (HC.out _ ((k : Int) + 1) hk3 hx3 hbl3 hh3).mono ?_
          rintro e w3 ⟨⟨rfl, hk3, s3, hh3, ho3, hs3⟩, hkb3, hbl3, hbx3⟩
          have HK3 := Lib.hid hkb3
          cases hm : E.may p.sig ((k : Int) + 1) s1 with
          | none =>
            have hmn : p.may = false := by rw [HM.out, Prog.mayTops_stop p.sig hlt HMI.out.mays (HT2.out.trans hm)]; rfl
            have HE := Lib.hid hmn
            clear hmn hm hk3 hh3 ho3 hs3 hkb3
            go_wp2
            go_ret
            exact ⟨ret_b (by rw [HE.out]), hbl3⟩
          | some s4 =>
            obtain rfl := hs3 s4 hm
            have HI2 := Lib.hid (show MInv p n bb hb kb dv cv tvv w w3 (k + 1) s3 ((k : Int) + 1) from ⟨HT2.out.trans hm, ho3, hh3, hkb3, hbx3, hbl3⟩)
            clear hm hk3 hh3 ho3 hs3 hkb3
            go_wp2
            go_roundw
            case rel => exact ⟨k + 1, s3, ((k : Int) + 1), hlt, by go_num, HI2⟩
            case measure => simp [intOf]; omega
         ·have e1 : (E.kind != 5) = true := by simp [h5]
          have HT2 := Lib.hid (show Prog.mayTops p.sig 0 (p.tops.take (k + 1)) (Bnd.fresh n) = none by rw [HT.out, if_pos ⟨rfl, h5⟩])
          have hmn : p.may = false := by rw [HM.out, Prog.mayTops_stop p.sig hlt HMI.out.mays HT2.out]; rfl
          have HE := Lib.hid hmn
          clear HT h5 hmn
          go_wp2
          go_ret
          exact ⟨ret_b (by rw [HE.out]), hbl3⟩
       ·have hall : Prog.mayTops p.sig 0 p.tops (Bnd.fresh n) = some s1 := by have := HMI.out.mays; rwa [List.take_of_length_le (by omega)] at this
        have hmy : p.may = true := by rw [HM.out, hall]; rfl
        have HE := Lib.hid hmy
        clear hall hmy htv
        go_wp2
        go_ret
        exact ⟨ret_b (by rw [HE.out]), hbel⟩
     ·as_aux_lemma =>
      obtain ⟨bb, hbb⟩ : ∃ x, w2.heap.size = x := ⟨_, rfl⟩
      obtain ⟨hb, hhb⟩ : ∃ x, w2.heap.size + 1 = x := ⟨_, rfl⟩
      obtain ⟨kb, hkb'⟩ : ∃ x, w2.heap.size + 1 + 1 = x := ⟨_, rfl⟩
      obtain ⟨tvv, htv⟩ : ∃ x, Value.slice at_ p.tops.length ct = x := ⟨_, rfl⟩
      obtain ⟨W1, hW1⟩ : ∃ W, (((w2.alloc (.cells (bools (List.replicate n false)) 4)).alloc (.cells (bools (List.replicate n false)) 4)).alloc (.cells #[dv, cv, .slice at_ p.tops.length ct, .int .i64 n, .int .i64 0, .slice (some ⟨w2.heap.size + 1, 0, none⟩) n n, .slice (some ⟨w2.heap.size, 0, none⟩) n n] 64)).drew = W := ⟨_, rfl⟩
      have b0 : Blk W1 w2.heap.size (bools (List.replicate n false)) 4 := by rw [← hW1]; exact Blk.drew (((Blk.new w2 _ _ _ rfl).alloc _).alloc _)
      have b1 : Blk W1 (w2.heap.size + 1) (bools (List.replicate n false)) 4 := by rw [← hW1]; exact Blk.drew ((Blk.new _ _ _ _ (by simp)).alloc _)
      have hk1 : Blk W1 kb (bndC dv cv tvv n 0 bb hb n) 64 := by rw [← hW1, ← hbb, ← hhb, ← hkb', ← htv]; exact Blk.drew (Blk.new _ _ _ _ (by simp))
      have hh1 : Holds W1 bb hb 4 (Bnd.fresh n) := ⟨by rw [← hbb]; exact b0, by rw [← hhb]; exact b1⟩
      have hbl1 : Below w.heap.size w W1 := by
       rw [← hW1]
       have hw2 : w.heap.size ≤ w2.heap.size := by omega
       (repeat (with_reducible first | exact hb3 | refine Below.setCell ?_ ?_ _ | refine Below.alloc ?_ ?_ _ | refine Below.drewN ?_ _ | refine Below.drew ?_)) <;> first | omega | (simp; omega) | (simp; done)
      have hszW : W1.heap.size = w2.heap.size + 3 := by rw [← hW1]; simp
      have hx1 : Blk W1 w.heap.size #[dv, cv, tvv, .int .i64 n] 28 := by rw [← hW1, ← htv]; exact Blk.drew (((hbx.alloc _).alloc _).alloc _)
      have hne1 : bb ≠ hb := by omega
      have hne2 : kb ≠ bb := by omega
      have hne3 : kb ≠ hb := by omega
      have hB1 : w.heap.size ≤ bb ∧ w.heap.size ≤ hb ∧ w.heap.size ≤ kb ∧ w.heap.size < W1.heap.size := by omega
      have hBl : w.heap.size ≠ bb ∧ w.heap.size ≠ hb ∧ w.heap.size ≠ kb := by omega
      have HB1 := Lib.hid hB1
      have HMI0 := Lib.hid (show MInv p n bb hb kb dv cv tvv w W1 0 (Bnd.fresh n) 0 from ⟨rfl, ⟨by simp [Bnd.fresh], by simp [Bnd.fresh]⟩, hh1, hk1, hx1, hbl1⟩)
      rw [hW1]
      simp only [hkb']
      clear hW1 b0 b1 hbb hhb hkb' hszW x0 x1 x2 x3 y0 y1 y2 y3 z0 z1 z2 z3 hb2 hbx hsz2 hb3 hmk hltb hk1 hh1 hbl1 hx1
      go_wp2
      go_loopw [4] (fun u wr => ∃ (k : Nat) (s1 : Bnd) (tp : Int), k ≤ p.tops.length ∧ u = .int .i64 k ∧ Hid (MInv p n bb hb kb dv cv tvv w wr k s1 tp)) (fun u _ => p.tops.length - (intOf u).toNat)
      case atStart => exact ⟨0, Bnd.fresh n, 0, Nat.zero_le _, rfl, HMI0⟩
      case round =>
       obtain ⟨k, s1, tp, hkl, rfl, HMI⟩ := hrel
       have hbel := HMI.out.bel
       have hszr := hbel.size
       have x2 : wr.cell? ⟨w.heap.size, 2, none⟩ = some (.slice at_ p.tops.length ct) := (HMI.out.box.cell 2).trans (congrArg some htv.symm)
       by_cases hlt : k < p.tops.length
       ·obtain ⟨b, off, cap', us', hv, hblt, hc, hcell, hus⟩ := GT.out.elem Top.d_len rfl k hlt (by omega)
        injection hv with ha hn' hcap
        subst ha hcap
        have hcl : ∀ W, Below w.heap.size w W → ∀ j u, us'[j]? = some u → W.cell? ⟨b, off + k * 11 + j, none⟩ = some u := fun W hW j u hj => (hW.cell (p := ⟨b, off + k * 11 + j, none⟩) hblt).trans (hcell j u hj)
        obtain ⟨ue, rfl, hue, -⟩ := Top.cells hus
        have HUE := Lib.hid hue
        have hsz := SM.out.top k hlt
        have HT := Lib.hid (Prog.mayTops_take p.sig hlt HMI.out.mays)
        obtain ⟨E, hE⟩ : ∃ E, (p.tops[k]).e = E := ⟨_, rfl⟩
        obtain ⟨R, hR⟩ : ∃ R, (p.tops[k]).rc = R := ⟨_, rfl⟩
        simp only [hE, hR] at HUE hsz HT hcl hue
        obtain ⟨v7, v8, rfl, g7, g8, -⟩ := Core.cells hue
        obtain ⟨a7, c7, rfl⟩ := g7.slice_inv
        obtain ⟨a8, c8, rfl⟩ := g8.slice_inv
        have g4 : wr.cell? ⟨kb, 4, none⟩ = some (.int .i64 tp) := (HMI.out.bound.cell 4).trans rfl
        have f4 : wr.frozen? ⟨kb, 4, none⟩ = false := HMI.out.bound.free 4
        have hcore := fun (W : World) (tp' : Int) (hkW : Blk W kb (bndC dv cv tvv n tp' bb hb n) 64) (hbxW : Blk W w.heap.size #[dv, cv, tvv, .int .i64 n] 28) (hbW : Below w.heap.size w W) (hhW : Holds W bb hb 4 s1) =>
         (rcore_any p.sig tp' kb bb hb n w.heap.size dv cv tvv n SM.out.sig.nc (fun i h => (SM.out.sig.con i h).2.1) HB1.out.1 HB1.out.2.1 hne1 hne2 hne3 hn1 E.size E _ s1 W (Nat.le_refl _) hsz hkW hbW.size (GC.out.keep hbW) (HUE.out.keep hbW) hhW HMI.out.of_).mono fun e w' (h : Ans (E.may p.sig tp' s1) bb hb n W e w') =>
           (⟨h, h.2.1.blk hkW (Xs.not hne2 hne3), hbW.trans (h.2.1.low (fun q hq => by rcases hq with rfl | rfl; exact HB1.out.1; exact HB1.out.2.1) hbW.size), h.2.1.blk hbxW (Xs.not hBl.1 hBl.2.1)⟩ : Ans (E.may p.sig tp' s1) bb hb n W e w' ∧ Blk w' kb (bndC dv cv tvv n tp' bb hb n) 64 ∧ Below w.heap.size w w' ∧ Blk w' w.heap.size #[dv, cv, tvv, .int .i64 n] 28)
        have HC := Lib.hid hcore
        obtain ⟨W2, hW2⟩ : ∃ W, wr.setCell ⟨kb, 4, none⟩ (.int .i64 k) = W := ⟨_, rfl⟩
        have hbl2 : Below w.heap.size w W2 := by rw [← hW2]; exact hbel.setCell (p := ⟨kb, 4, none⟩) HB1.out.2.2.1 _
        have hk2 : Blk W2 kb (bndC dv cv tvv n k bb hb n) 64 := by rw [← hW2]; exact HMI.out.bound.set 4 _
        have hx2 : Blk W2 w.heap.size #[dv, cv, tvv, .int .i64 n] 28 := by rw [← hW2]; exact HMI.out.box.setOther (a := ⟨kb, 4, none⟩) hBl.2.2 _
        have hh2 : Holds W2 bb hb 4 s1 := by rw [← hW2]; exact ⟨HMI.out.holds.been.setOther (a := ⟨kb, 4, none⟩) (Ne.symm hne2) _, HMI.out.holds.here.setOther (a := ⟨kb, 4, none⟩) (Ne.symm hne3) _⟩
        have z2 : W2.cell? ⟨w.heap.size, 2, none⟩ = some (.slice (some ⟨b, off, none⟩) p.tops.length ct) := (hx2.cell 2).trans (congrArg some htv.symm)
        have z4 : W2.cell? ⟨kb, 4, none⟩ = some (.int .i64 k) := (hk2.cell 4).trans rfl
        have zf : W2.frozen? ⟨kb, 4, none⟩ = false := hk2.free 4
        have m1 := hcl W2 hbl2 1 _ rfl
        clear hcell hus hue g7 g8 hcore hE
        cases R
        ·have HT2 := Lib.hid (show Prog.mayTops p.sig 0 (p.tops.take (k + 1)) (Bnd.fresh n) = E.may p.sig (k : Int) s1 by rw [HT.out]; simp)
         have m2 := hcl W2 hbl2 2 _ rfl
         have m3 := hcl W2 hbl2 3 _ rfl
         have m4 := hcl W2 hbl2 4 _ rfl
         have m5 := hcl W2 hbl2 5 _ rfl
         have m6 := hcl W2 hbl2 6 _ rfl
         have m7 := hcl W2 hbl2 7 _ rfl
         have m8 := hcl W2 hbl2 8 _ rfl
         have m9 := hcl W2 hbl2 9 _ rfl
         have m10 := hcl W2 hbl2 10 _ rfl
         clear HT hcl htv hR
         go_wp2_with fail
         refine (HC.out _ (k : Int) hk2 hx2 hbl2 hh2).mono ?_
         rintro e w3 ⟨⟨rfl, hk3, s3, hh3, ho3, hs3⟩, hkb3, hbl3, hbx3⟩
         have HK3 := Lib.hid hkb3
         cases hm : E.may p.sig (k : Int) s1 with
         | none =>
           have hmn : p.may = false := by rw [HM.out, Prog.mayTops_stop p.sig hlt HMI.out.mays (HT2.out.trans hm)]; rfl
           have HE := Lib.hid hmn
           clear hmn hm hk3 hh3 ho3 hs3 hkb3
           go_wp2
           go_ret
           exact ⟨ret_b (by rw [HE.out]), hbl3⟩
         | some s4 =>
           obtain rfl := hs3 s4 hm
           have HI2 := Lib.hid (show MInv p n bb hb kb dv cv tvv w w3 (k + 1) s3 (k : Int) from ⟨HT2.out.trans hm, ho3, hh3, hkb3, hbx3, hbl3⟩)
           clear hm hk3 hh3 ho3 hs3 hkb3
           go_wp2
           go_roundw
           case rel => exact ⟨k + 1, s3, (k : Int), hlt, by go_num, HI2⟩
           case measure => simp [intOf]; omega
        ·obtain ⟨W3, hW3⟩ : ∃ W, W2.setCell ⟨kb, 4, none⟩ (.int .i64 ((k : Int) + 1)) = W := ⟨_, rfl⟩
         have hbl3 : Below w.heap.size w W3 := by rw [← hW3]; exact hbl2.setCell (p := ⟨kb, 4, none⟩) HB1.out.2.2.1 _
         have hk3 : Blk W3 kb (bndC dv cv tvv n ((k : Int) + 1) bb hb n) 64 := by rw [← hW3]; exact hk2.set 4 _
         have hx3 : Blk W3 w.heap.size #[dv, cv, tvv, .int .i64 n] 28 := by rw [← hW3]; exact hx2.setOther (a := ⟨kb, 4, none⟩) hBl.2.2 _
         have hh3 : Holds W3 bb hb 4 s1 := by rw [← hW3]; exact ⟨hh2.been.setOther (a := ⟨kb, 4, none⟩) (Ne.symm hne2) _, hh2.here.setOther (a := ⟨kb, 4, none⟩) (Ne.symm hne3) _⟩
         have z23 : W3.cell? ⟨w.heap.size, 2, none⟩ = some (.slice (some ⟨b, off, none⟩) p.tops.length ct) := (hx3.cell 2).trans (congrArg some htv.symm)
         have m2 := hcl W3 hbl3 2 _ rfl
         have m3 := hcl W3 hbl3 3 _ rfl
         have m4 := hcl W3 hbl3 4 _ rfl
         have m5 := hcl W3 hbl3 5 _ rfl
         have m6 := hcl W3 hbl3 6 _ rfl
         have m7 := hcl W3 hbl3 7 _ rfl
         have m8 := hcl W3 hbl3 8 _ rfl
         have m9 := hcl W3 hbl3 9 _ rfl
         have m10 := hcl W3 hbl3 10 _ rfl
         clear hcl htv hR
         by_cases h5 : E.kind = 5
         ·have e1 : (E.kind != 5) = false := by simp [h5]
          have HT2 := Lib.hid (show Prog.mayTops p.sig 0 (p.tops.take (k + 1)) (Bnd.fresh n) = E.may p.sig ((k : Int) + 1) s1 by rw [HT.out]; simp [h5])
          clear HT h5
          go_wp2_with fail
          refine (HC.out _ ((k : Int) + 1) hk3 hx3 hbl3 hh3).mono ?_
          rintro e w3 ⟨⟨rfl, hk3, s3, hh3, ho3, hs3⟩, hkb3, hbl3, hbx3⟩
          have HK3 := Lib.hid hkb3
          cases hm : E.may p.sig ((k : Int) + 1) s1 with
          | none =>
            have hmn : p.may = false := by rw [HM.out, Prog.mayTops_stop p.sig hlt HMI.out.mays (HT2.out.trans hm)]; rfl
            have HE := Lib.hid hmn
            clear hmn hm hk3 hh3 ho3 hs3 hkb3
            go_wp2
            go_ret
            exact ⟨ret_b (by rw [HE.out]), hbl3⟩
          | some s4 =>
            obtain rfl := hs3 s4 hm
            have HI2 := Lib.hid (show MInv p n bb hb kb dv cv tvv w w3 (k + 1) s3 ((k : Int) + 1) from ⟨HT2.out.trans hm, ho3, hh3, hkb3, hbx3, hbl3⟩)
            clear hm hk3 hh3 ho3 hs3 hkb3
            go_wp2
            go_roundw
            case rel => exact ⟨k + 1, s3, ((k : Int) + 1), hlt, by go_num, HI2⟩
            case measure => simp [intOf]; omega
         ·have e1 : (E.kind != 5) = true := by simp [h5]
          have HT2 := Lib.hid (show Prog.mayTops p.sig 0 (p.tops.take (k + 1)) (Bnd.fresh n) = none by rw [HT.out, if_pos ⟨rfl, h5⟩])
          have hmn : p.may = false := by rw [HM.out, Prog.mayTops_stop p.sig hlt HMI.out.mays HT2.out]; rfl
          have HE := Lib.hid hmn
          clear HT h5 hmn
          go_wp2
          go_ret
          exact ⟨ret_b (by rw [HE.out]), hbl3⟩
       ·have hall : Prog.mayTops p.sig 0 p.tops (Bnd.fresh n) = some s1 := by have := HMI.out.mays; rwa [List.take_of_length_le (by omega)] at this
        have hmy : p.may = true := by rw [HM.out, hall]; rfl
        have HE := Lib.hid hmy
        clear hall hmy htv
        go_wp2
        go_ret
        exact ⟨ret_b (by rw [HE.out]), hbel⟩
    ·have t3 : decide ((1048576 : Int) < p.vars) = true := decide_eq_true (by omega)
     go_enter Tryz.func7, Tryz.ntmps7
     go_wp2_with fail
     refine (HD.out _ (by (repeat (with_reducible first | exact Below.refl _ _ | refine Below.setCell ?_ ?_ _ | refine Below.alloc ?_ ?_ _ | refine Below.drewN ?_ _ | refine Below.drew ?_)) <;> first | omega | (simp; omega) | (simp; done))).mono ?_
     rintro e w2 ⟨rfl, hb2⟩
     have hsz2 := hb2.size
     have hb3 : Below w.heap.size w w2 := by
      refine Below.trans ?_ (hb2.mono (by first | omega | (simp; omega) | (simp; done)))
      (repeat (with_reducible first | exact Below.refl _ _ | refine Below.setCell ?_ ?_ _ | refine Below.alloc ?_ ?_ _ | refine Below.drewN ?_ _ | refine Below.drew ?_)) <;> first | omega | (simp; omega) | (simp; done)
     have hbx := (Blk.new w _ #[dv, cv, .slice at_ p.tops.length ct, .int .i64 p.vars] 28 rfl).below hb2 (by simp)
     have x0 : w2.cell? ⟨w.heap.size, 0, none⟩ = some dv := (hbx.cell 0).trans rfl
     have x1 : w2.cell? ⟨w.heap.size, 1, none⟩ = some cv := (hbx.cell 1).trans rfl
     have x2 : w2.cell? ⟨w.heap.size, 2, none⟩ = some (.slice at_ p.tops.length ct) := (hbx.cell 2).trans rfl
     have x3 : w2.cell? ⟨w.heap.size, 3, none⟩ = some (.int .i64 p.vars) := (hbx.cell 3).trans rfl
     have HM := Lib.hid (Prog.may_no (p := p) (by rintro ⟨g1, g2, g3, g4⟩; omega))
     go_wp2
     go_ret
     exact ⟨ret_b (by rw [HM.out]), hb3⟩
   ·have t2 : decide (p.vars < 0) = true := decide_eq_true (by omega)
    go_enter Tryz.func7, Tryz.ntmps7
    go_wp2_with fail
    refine (HD.out _ (by (repeat (with_reducible first | exact Below.refl _ _ | refine Below.setCell ?_ ?_ _ | refine Below.alloc ?_ ?_ _ | refine Below.drewN ?_ _ | refine Below.drew ?_)) <;> first | omega | (simp; omega) | (simp; done))).mono ?_
    rintro e w2 ⟨rfl, hb2⟩
    have hsz2 := hb2.size
    have hb3 : Below w.heap.size w w2 := by
     refine Below.trans ?_ (hb2.mono (by first | omega | (simp; omega) | (simp; done)))
     (repeat (with_reducible first | exact Below.refl _ _ | refine Below.setCell ?_ ?_ _ | refine Below.alloc ?_ ?_ _ | refine Below.drewN ?_ _ | refine Below.drew ?_)) <;> first | omega | (simp; omega) | (simp; done)
    have hbx := (Blk.new w _ #[dv, cv, .slice at_ p.tops.length ct, .int .i64 p.vars] 28 rfl).below hb2 (by simp)
    have x0 : w2.cell? ⟨w.heap.size, 0, none⟩ = some dv := (hbx.cell 0).trans rfl
    have x1 : w2.cell? ⟨w.heap.size, 1, none⟩ = some cv := (hbx.cell 1).trans rfl
    have x2 : w2.cell? ⟨w.heap.size, 2, none⟩ = some (.slice at_ p.tops.length ct) := (hbx.cell 2).trans rfl
    have x3 : w2.cell? ⟨w.heap.size, 3, none⟩ = some (.int .i64 p.vars) := (hbx.cell 3).trans rfl
    have HM := Lib.hid (Prog.may_no (p := p) (by rintro ⟨g1, g2, g3, g4⟩; omega))
    go_wp2
    go_ret
    exact ⟨ret_b (by rw [HM.out]), hb3⟩
  ·have t1 : decide ((60 : Int) < (p.tops.length : Int)) = true := decide_eq_true (by omega)
   go_enter Tryz.func7, Tryz.ntmps7
   go_wp2_with fail
   refine (HD.out _ (by (repeat (with_reducible first | exact Below.refl _ _ | refine Below.setCell ?_ ?_ _ | refine Below.alloc ?_ ?_ _ | refine Below.drewN ?_ _ | refine Below.drew ?_)) <;> first | omega | (simp; omega) | (simp; done))).mono ?_
   rintro e w2 ⟨rfl, hb2⟩
   have hsz2 := hb2.size
   have hb3 : Below w.heap.size w w2 := by
    refine Below.trans ?_ (hb2.mono (by first | omega | (simp; omega) | (simp; done)))
    (repeat (with_reducible first | exact Below.refl _ _ | refine Below.setCell ?_ ?_ _ | refine Below.alloc ?_ ?_ _ | refine Below.drewN ?_ _ | refine Below.drew ?_)) <;> first | omega | (simp; omega) | (simp; done)
   have hbx := (Blk.new w _ #[dv, cv, .slice at_ p.tops.length ct, .int .i64 p.vars] 28 rfl).below hb2 (by simp)
   have x0 : w2.cell? ⟨w.heap.size, 0, none⟩ = some dv := (hbx.cell 0).trans rfl
   have x1 : w2.cell? ⟨w.heap.size, 1, none⟩ = some cv := (hbx.cell 1).trans rfl
   have x2 : w2.cell? ⟨w.heap.size, 2, none⟩ = some (.slice at_ p.tops.length ct) := (hbx.cell 2).trans rfl
   have x3 : w2.cell? ⟨w.heap.size, 3, none⟩ = some (.int .i64 p.vars) := (hbx.cell 3).trans rfl
   have HM := Lib.hid (Prog.may_no (p := p) (by rintro ⟨g1, g2, g3, g4⟩; omega))
   go_wp2
   go_ret
   exact ⟨ret_b (by rw [HM.out]), hb3⟩
 ·have hS' : p.sig.may = false := by simpa using hS
  rw [hS'] at HD
  go_enter Tryz.func7, Tryz.ntmps7
  go_wp2_with fail
  refine (HD.out _ (by (repeat (with_reducible first | exact Below.refl _ _ | refine Below.setCell ?_ ?_ _ | refine Below.alloc ?_ ?_ _ | refine Below.drewN ?_ _ | refine Below.drew ?_)) <;> first | omega | (simp; omega) | (simp; done))).mono ?_
  rintro e w2 ⟨rfl, hb2⟩
  have hsz2 := hb2.size
  have hb3 : Below w.heap.size w w2 := by
   refine Below.trans ?_ (hb2.mono (by first | omega | (simp; omega) | (simp; done)))
   (repeat (with_reducible first | exact Below.refl _ _ | refine Below.setCell ?_ ?_ _ | refine Below.alloc ?_ ?_ _ | refine Below.drewN ?_ _ | refine Below.drew ?_)) <;> first | omega | (simp; omega) | (simp; done)
  have hbx := (Blk.new w _ #[dv, cv, .slice at_ p.tops.length ct, .int .i64 p.vars] 28 rfl).below hb2 (by simp)
  have x0 : w2.cell? ⟨w.heap.size, 0, none⟩ = some dv := (hbx.cell 0).trans rfl
  have x1 : w2.cell? ⟨w.heap.size, 1, none⟩ = some cv := (hbx.cell 1).trans rfl
  have x2 : w2.cell? ⟨w.heap.size, 2, none⟩ = some (.slice at_ p.tops.length ct) := (hbx.cell 2).trans rfl
  have x3 : w2.cell? ⟨w.heap.size, 3, none⟩ = some (.int .i64 p.vars) := (hbx.cell 3).trans rfl
  have HM := Lib.hid (Prog.may_no (p := p) (by rintro ⟨g1, g2, g3, g4⟩; exact hS g1))
  go_wp2
  go_ret
  exact ⟨ret_b (by rw [HM.out]), hb3⟩
end Go.Proofs.YtdhodaefgliphaaGreatDoor
