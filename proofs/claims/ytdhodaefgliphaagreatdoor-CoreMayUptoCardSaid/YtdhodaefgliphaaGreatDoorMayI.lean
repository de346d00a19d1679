/- Contracts: looker.core for every core; core.May. -/
import Derived.Test.YtdhodaefgliphaaGreatDoorMayH
import Derived.Test.YtdhodaefgliphaaGreatDoorDatM
import Derived.Laws.MakeOwn
set_option linter.unusedVariables false
set_option linter.unusedSimpArgs false
namespace Go.Proofs.YtdhodaefgliphaaGreatDoor
open Go.RowKit
theorem core_ok (s : Sig) (tops : Int) (kb bb hb n B : Nat) (dv cv tv : Value) (vars : Int) (hl : s.cons.length ≤ 1048576) (hf : ∀ i (h : i < s.cons.length), s.cons[i].fields.length ≤ 1048576)
  (hBb : B ≤ bb) (hBh : B ≤ hb) (hbt : bb ≠ hb) (hkb : kb ≠ bb) (hkh : kb ≠ hb) (hn : n ≤ 1048576) :
  ∀ (N : Nat) (w : World), Blk w kb (lkC dv cv tv vars tops bb hb n) 59 → B ≤ w.heap.size → Rd w B cv (.list 4 s.cons.length (s.cons.flatMap Con.d)) → CoreOk s tops B kb bb hb n N w := by
 intro N
 induction N with
 | zero => intro w _ _ _ c us st W h; have := c.size_pos; omega
 | succ N ih =>
   intro w hk hB hr c us st W h1 h2 hW hus hh ho
   have hlow : Below B w W := hW.low (by rintro k (rfl | rfl) <;> assumption) hB
   have hk' := hW.blk hk (Xs.not hkb hkh)
   have hB' := Nat.le_trans hB hW.size
   exact core_step s tops kb bb hb n B dv cv tv vars hl hf N c us st W (ih W hk' hB' (hr.keep hlow)) h1 h2 hk' hB' hBb hBh (hr.keep hlow) hbt hkb hkh hn hus hh ho
namespace Prog
theorem mayTops_app (s : Sig) : ∀ (i : Nat) (l m : List Top) (st : Bnd), mayTops s i (l ++ m) st = (mayTops s i l st).bind fun s1 => mayTops s (i + l.length) m s1
 | _, [], _, _ => rfl
 | i, t :: r, m, st => by
   simp only [List.cons_append, mayTops]
   split
   ·rfl
   ·cases t.e.may s (if t.rc then (i : Int) + 1 else i) st with
    | none => rfl
    | some s1 =>
      simp only [Option.bind_some]
      rw [mayTops_app s (i + 1) r m s1, List.length_cons, show i + 1 + r.length = i + (r.length + 1) by omega]
theorem mayTops_take (s : Sig) {l : List Top} {k : Nat} (hk : k < l.length) {st s1 : Bnd} (h : mayTops s 0 (l.take k) st = some s1) :
  mayTops s 0 (l.take (k + 1)) st = if l[k].rc = true ∧ l[k].e.kind ≠ 5 then none else l[k].e.may s (if l[k].rc then (k : Int) + 1 else k) s1 := by
 rw [List.take_succ_eq_append_getElem hk, mayTops_app, h]
 have hlen : (l.take k).length = k := by rw [List.length_take]; omega
 simp only [Option.bind_some, mayTops, hlen, Nat.zero_add]
 split
 ·rfl
 ·cases l[k].e.may s (if l[k].rc then (k : Int) + 1 else k) s1 <;> rfl
theorem mayTops_stop (s : Sig) {l : List Top} {k : Nat} (hk : k < l.length) {st s1 : Bnd} (h : mayTops s 0 (l.take k) st = some s1) (hn : mayTops s 0 (l.take (k + 1)) st = none) : mayTops s 0 l st = none := by
 rw [← List.take_append_drop (k + 1) l, mayTops_app, hn]; rfl
end Prog
theorem infoBool : (Tryz.prog.info? 4).map (fun i => (i.zero, i.size, i.bytes)) = some (some (.bool false), 1, 1) := by kernel_rfl
theorem make_bools (n : Nat) (h : n ≤ 4194304) (w : World) : Sem.run Tryz.prog (Instr.makeSlice 57 (.int .i64 n) (.int .i64 n)) w = .ok (.slice (some ⟨w.heap.size, 0, none⟩) n n) (w.alloc (.cells (bools (List.replicate n false)) 4)) := by
 obtain ⟨i0, hi0, hz0, hz1, hz2⟩ := info_parts infoBool
 have := run_make (P := Tryz.prog) w 57 4 i0 _ Tryz.underlying57 hi0 hz0 .i64 .i64 n n (by omega) (Int.le_refl _) (by rw [hz2]; omega) (by omega)
 rw [this, hz1]
 have e : madeCells (Value.bool false).cells ((n : Int).toNat * 1) = bools (List.replicate n false) := by
  apply Array.ext
  ·simp [madeCells, bools]
  ·intro i h1 h2
   simp [madeCells, Value.cells, Nat.mod_one, bools]
 rw [e]
 simp
theorem Prog.may_no {p : Prog} (h : ¬(p.sig.may = true ∧ p.tops.length ≤ 60 ∧ 0 ≤ p.vars ∧ p.vars ≤ 1048576)) : p.may = false := by
 unfold Prog.may
 by_cases h1 : p.sig.may = true
 ·have : decide (p.tops.length ≤ 60 ∧ 0 ≤ p.vars ∧ p.vars ≤ 1048576) = false := decide_eq_false fun h2 => h ⟨h1, h2⟩
  rw [this]; simp
 ·have : p.sig.may = false := by simpa using h1
  rw [this]; simp
theorem Prog.may_at {p : Prog} {n : Nat} (h1 : p.sig.may = true) (h2 : p.tops.length ≤ 60) (h3 : p.vars = (n : Int)) (h4 : n ≤ 1048576) : p.may = (Prog.mayTops p.sig 0 p.tops (Bnd.fresh n)).isSome := by
 unfold Prog.may
 rw [h1, decide_eq_true ⟨h2, by omega, by omega⟩, h3]; simp
def Prog.mayE (p : Prog) : Int := if p.may then 0 else 2
theorem Prog.mayE_no {p : Prog} (h : p.may = false) : p.mayE = 2 := by simp [Prog.mayE, h]
theorem Prog.mayE_yes {p : Prog} (h : p.may = true) : p.mayE = 0 := by simp [Prog.mayE, h]
structure Prog.Small (p : Prog) : Prop where
 sig : p.sig.Small
 nt : p.tops.length ≤ 1048576
 top : ∀ i (h : i < p.tops.length), p.tops[i].e.size ≤ 1048576
set_option maxRecDepth 100000 in
set_option maxHeartbeats 4000000 in
theorem coreMay_any (p : Prog) (us : List Value) (w : World) (hsm : p.Small) (hus : Rds w w.heap.size us p.d) :
  Calls Tryz.prog 6 #[.agg us.toArray] w fun e w' => e = .returned (.int .i64 p.mayE) ∧ Below w.heap.size w w' := by
 obtain ⟨dv, cv, tv, rfl, gs, gt, wv⟩ := Prog.cells hus
 have GS := Lib.hid gs
 have GT := Lib.hid gt
 have SM := Lib.hid hsm
 have hnt := hsm.nt
 have HD := Lib.hid (fun (W : World) (hW : Below w.heap.size w W) => dmay_any p.sig [dv, cv] W hsm.sig ((gs.keep hW).mono hW.size))
 have gc : Rd w w.heap.size cv (.list 4 p.sig.cons.length (p.sig.cons.flatMap Con.d)) := by
  obtain ⟨v0, v1, e, g0, g1⟩ := Sig.cells gs
  simp only [List.cons.injEq, and_true] at e
  obtain ⟨rfl, rfl⟩ := e
  exact g1
 have gd : ∃ a c, dv = .slice a p.sig.datas.length c := by
  obtain ⟨v0, v1, e, g0, g1⟩ := Sig.cells gs
  simp only [List.cons.injEq, and_true] at e
  obtain ⟨rfl, rfl⟩ := e
  exact g0.slice_inv
 have GC := Lib.hid gc
 obtain ⟨ad, cd, rfl⟩ := gd
 obtain ⟨ac, cc, rfl⟩ := gc.slice_inv
 obtain ⟨at_, ct, rfl⟩ := gt.slice_inv
 clear gs gt hsm gc hus
 obtain ⟨dv, hdv⟩ : ∃ v, Value.slice ad p.sig.datas.length cd = v := ⟨_, rfl⟩
 obtain ⟨cv, hcv⟩ : ∃ v, Value.slice ac p.sig.cons.length cc = v := ⟨_, rfl⟩
 have HDV := Lib.hid hdv
 have HCV := Lib.hid hcv
 by_cases hS : p.sig.may = true
 ·rw [Sig.mayE_yes hS] at HD
  simp only [hdv, hcv] at *
  clear hdv hcv
  by_cases h60 : p.tops.length ≤ 60
  ·have t1 : decide ((60 : Int) < (p.tops.length : Int)) = false := decide_eq_false (by omega)
   by_cases hv0 : 0 ≤ p.vars
   ·have t2 : decide (p.vars < 0) = false := decide_eq_false (by omega)
    by_cases hv1 : p.vars ≤ 1048576
    ·have t3 : decide ((1048576 : Int) < p.vars) = false := decide_eq_false (by omega)
     obtain ⟨n, hn⟩ := Int.eq_ofNat_of_zero_le hv0
     have hn1 : n ≤ 1048576 := by omega
     have HM := Lib.hid (Prog.may_at hS h60 hn hn1)
     have hmk := make_bools n (by omega)
     rw [hn] at t2 t3
     have HN := Lib.hid hn
     rw [hn]
     clear hv0 hv1 hS hn
     go_enter Tryz.func6, Tryz.ntmps6
     go_wp2_with fail
     refine (HD.out _ (by (repeat (with_reducible first | exact Below.refl _ _ | refine Below.setCell ?_ ?_ _ | refine Below.alloc ?_ ?_ _ | refine Below.drewN ?_ _ | refine Below.drew ?_)) <;> first | omega | (simp; omega) | (simp; done))).mono ?_
     rintro e w2 ⟨rfl, hb2⟩
     have hsz2 := hb2.size
     have hb3 : Below w.heap.size w w2 := by
      refine Below.trans ?_ (hb2.mono (by first | omega | (simp; omega) | (simp; done)))
      (repeat (with_reducible first | exact Below.refl _ _ | refine Below.setCell ?_ ?_ _ | refine Below.alloc ?_ ?_ _ | refine Below.drewN ?_ _ | refine Below.drew ?_)) <;> first | omega | (simp; omega) | (simp; done)
     have hbx := (Blk.new w _ #[dv, cv, .slice at_ p.tops.length ct, .int .i64 (n : Int)] 28 rfl).below hb2 (by simp)
     have x0 : w2.cell? ⟨w.heap.size, 0, none⟩ = some dv := (hbx.cell 0).trans rfl
     have x1 : w2.cell? ⟨w.heap.size, 1, none⟩ = some cv := (hbx.cell 1).trans rfl
     have x2 : w2.cell? ⟨w.heap.size, 2, none⟩ = some (.slice at_ p.tops.length ct) := (hbx.cell 2).trans rfl
     have x3 : w2.cell? ⟨w.heap.size, 3, none⟩ = some (.int .i64 (n : Int)) := (hbx.cell 3).trans rfl
     have hltb : w.heap.size < w2.heap.size := by simp at hsz2; omega
     have y0 := cell_al1 x0 hltb
     have y1 := cell_al1 x1 hltb
     have y2 := cell_al1 x2 hltb
     have y3 := cell_al1 x3 hltb
     have z0 := cell_al2 x0 hltb
     have z1 := cell_al2 x1 hltb
     have z2 := cell_al2 x2 hltb
     have z3 := cell_al2 x3 hltb
     go_wp2_with fail
     go_region
     ·
      obtain ⟨bb, hbb⟩ : ∃ x, w2.heap.size = x := ⟨_, rfl⟩
      obtain ⟨hb, hhb⟩ : ∃ x, w2.heap.size + 1 = x := ⟨_, rfl⟩
      obtain ⟨kb, hkb'⟩ : ∃ x, w2.heap.size + 1 + 1 = x := ⟨_, rfl⟩
      obtain ⟨W1, hW1⟩ : ∃ W, (((w2.alloc (.cells (bools (List.replicate n false)) 4)).alloc (.cells (bools (List.replicate n false)) 4)).alloc (.cells #[dv, cv, .slice at_ p.tops.length ct, .int .i64 n, .int .i64 0, .slice (some ⟨w2.heap.size, 0, none⟩) n n, .slice (some ⟨w2.heap.size + 1, 0, none⟩) n n] 59)).drew = W := ⟨_, rfl⟩
      have b0 : Blk W1 w2.heap.size (bools (List.replicate n false)) 4 := by rw [← hW1]; exact Blk.drew (((Blk.new w2 _ _ _ rfl).alloc _).alloc _)
      have b1 : Blk W1 (w2.heap.size + 1) (bools (List.replicate n false)) 4 := by rw [← hW1]; exact Blk.drew ((Blk.new _ _ _ _ (by simp)).alloc _)
      have hk1 : Blk W1 kb (lkC dv cv (.slice at_ p.tops.length ct) n 0 bb hb n) 59 := by rw [← hW1, ← hbb, ← hhb, ← hkb']; exact Blk.drew (Blk.new _ _ _ _ (by simp))
      have hh1 : Holds W1 bb hb 4 (Bnd.fresh n) := ⟨by rw [← hbb]; exact b0, by rw [← hhb]; exact b1⟩
      have hbl1 : Below w.heap.size w W1 := by
       rw [← hW1]
       have hw2 : w.heap.size ≤ w2.heap.size := by omega
       (repeat (with_reducible first | exact hb3 | refine Below.setCell ?_ ?_ _ | refine Below.alloc ?_ ?_ _ | refine Below.drewN ?_ _ | refine Below.drew ?_)) <;> first | omega | (simp; omega) | (simp; done)
      have hszW : W1.heap.size = w2.heap.size + 3 := by rw [← hW1]; simp
      have hx1 : W1.cell? ⟨w.heap.size, 2, none⟩ = some (.slice at_ p.tops.length ct) := by
       rw [← hW1]
       exact (cell_al3 x2 hltb _ _ _)
      rw [hW1]
      simp only [hkb']
      simp only [hhb]
      simp only [hbb]
      have hne1 : bb ≠ hb := by omega
      have hne2 : kb ≠ bb := by omega
      have hne3 : kb ≠ hb := by omega
      have hB1 : w.heap.size ≤ bb ∧ w.heap.size ≤ hb ∧ w.heap.size ≤ kb ∧ w.heap.size < W1.heap.size := by omega
      have HB1 := Lib.hid hB1
      have hX : ∀ q, (q = bb ∨ q = hb ∨ q = kb) → w.heap.size ≤ q := by rintro q (rfl | rfl | rfl) <;> omega
      have HX := Lib.hid hX
      clear hW1 b0 b1 hbb hhb hkb' hszW x0 x1 x2 x3 y0 y1 y2 y3 z0 z1 z2 z3 hb2 hbx hsz2 hb3 hmk hX hltb
      go_wp2
      go_loopw [38] (fun u wr => ∃ (k : Nat) (s1 : Bnd) (tp : Int), k ≤ p.tops.length ∧ u = .int .i64 k ∧ Hid (Prog.mayTops p.sig 0 (p.tops.take k) (Bnd.fresh n) = some s1) ∧ Hid (s1.Of n) ∧ Hid (Holds wr bb hb 4 s1) ∧ Hid (Blk wr kb (lkC dv cv (.slice at_ p.tops.length ct) n tp bb hb n) 59) ∧ Below w.heap.size w wr) (fun u _ => p.tops.length - (intOf u).toNat)
      case atStart => exact ⟨0, Bnd.fresh n, 0, Nat.zero_le _, rfl, rfl, Lib.hid ⟨by simp [Bnd.fresh], by simp [Bnd.fresh]⟩, Lib.hid hh1, Lib.hid hk1, hbl1⟩
      case round =>
       obtain ⟨k, s1, tp, hkl, rfl, HA, HO, HH, HK, hbel⟩ := hrel
       have hszr := hbel.size
       have hkw := HK.out.lt
       by_cases hlt : k < p.tops.length
       ·obtain ⟨b, off, cap', us', hv, hblt, hc, hcell, hus⟩ := GT.out.elem Top.d_len rfl k hlt (by omega)
        injection hv with ha hn' hcap
        subst ha hcap
        obtain ⟨ue, rfl, hue, -⟩ := Top.cells hus
        have HUE := Lib.hid hue
        have hsz := SM.out.top k hlt
        have HT := Lib.hid (Prog.mayTops_take p.sig hlt HA.out)
        obtain ⟨E, hE⟩ : ∃ E, (p.tops[k]).e = E := ⟨_, rfl⟩
        obtain ⟨R, hR⟩ : ∃ R, (p.tops[k]).rc = R := ⟨_, rfl⟩
        obtain ⟨nm, hnm⟩ : ∃ R, (p.tops[k]).name = R := ⟨_, rfl⟩
        simp only [hE, hR, hnm] at HUE hsz HT hcell hue
        obtain ⟨v7, v8, rfl, g7, g8, -⟩ := Core.cells hue
        obtain ⟨a7, c7, rfl⟩ := g7.slice_inv
        obtain ⟨a8, c8, rfl⟩ := g8.slice_inv
        have c0 := (hbel.cell (p := ⟨b, off + k * 11, none⟩) hblt).trans (hcell 0 _ rfl)
        have c1 := (hbel.cell (p := ⟨b, off + k * 11 + 1, none⟩) hblt).trans (hcell 1 _ rfl)
        have c2 := (hbel.cell (p := ⟨b, off + k * 11 + 2, none⟩) hblt).trans (hcell 2 _ rfl)
        have c3 := (hbel.cell (p := ⟨b, off + k * 11 + 3, none⟩) hblt).trans (hcell 3 _ rfl)
        have c4 := (hbel.cell (p := ⟨b, off + k * 11 + 4, none⟩) hblt).trans (hcell 4 _ rfl)
        have c5 := (hbel.cell (p := ⟨b, off + k * 11 + 5, none⟩) hblt).trans (hcell 5 _ rfl)
        have c6 := (hbel.cell (p := ⟨b, off + k * 11 + 6, none⟩) hblt).trans (hcell 6 _ rfl)
        have c7' := (hbel.cell (p := ⟨b, off + k * 11 + 7, none⟩) hblt).trans (hcell 7 _ rfl)
        have c8' := (hbel.cell (p := ⟨b, off + k * 11 + 8, none⟩) hblt).trans (hcell 8 _ rfl)
        have c9 := (hbel.cell (p := ⟨b, off + k * 11 + 9, none⟩) hblt).trans (hcell 9 _ rfl)
        have c10 := (hbel.cell (p := ⟨b, off + k * 11 + 10, none⟩) hblt).trans (hcell 10 _ rfl)
        have g4 : ∀ ob, (wr.alloc ob).cell? ⟨kb, 4, none⟩ = some (.int .i64 tp) := fun ob => ((HK.out.alloc ob).cell 4).trans rfl
        have f4 : ∀ ob, (wr.alloc ob).frozen? ⟨kb, 4, none⟩ = false := fun ob => (HK.out.alloc ob).free 4
        have hcore := fun (W : World) (tp' : Int) (hkW : Blk W kb (lkC dv cv (.slice (some ⟨b, off, none⟩) p.tops.length ct) n tp' bb hb n) 59) (hbW : Below w.heap.size w W) (hhW : Holds W bb hb 4 s1) =>
         (core_ok p.sig tp' kb bb hb n w.heap.size dv cv (.slice (some ⟨b, off, none⟩) p.tops.length ct) n SM.out.sig.nc (fun i h => (SM.out.sig.con i h).2.1) HB1.out.1 HB1.out.2.1 hne1 hne2 hne3 hn1 E.size W hkW hbW.size (GC.out.keep hbW) E _ s1 W (Nat.le_refl _) hsz (Kept.refl _ _) (HUE.out.keep hbW) hhW HO.out).mono fun e w' (h : Ans (E.may p.sig tp' s1) bb hb n W e w') =>
           (⟨h, h.2.1.blk hkW (Xs.not hne2 hne3), hbW.trans (h.2.1.low (fun q hq => by rcases hq with rfl | rfl; exact HB1.out.1; exact HB1.out.2.1) hbW.size)⟩ : Ans (E.may p.sig tp' s1) bb hb n W e w' ∧ Blk w' kb (lkC dv cv (.slice (some ⟨b, off, none⟩) p.tops.length ct) n tp' bb hb n) 59 ∧ Below w.heap.size w w')
        have HC := Lib.hid hcore
        clear hcell hus hue g7 g8 hcore hE hR hnm
        cases R
        ·have HT2 := Lib.hid (show Prog.mayTops p.sig 0 (p.tops.take (k + 1)) (Bnd.fresh n) = E.may p.sig (k : Int) s1 by rw [HT.out]; simp)
         clear HT
         go_wp2_with fail
         refine (HC.out _ (k : Int) ((HK.out.set 4 _).alloc _) ?_ ?_).mono ?_
         ·exact (hbel.setCell (p := ⟨kb, 4, none⟩) HB1.out.2.2.1 _).alloc (by simp; omega) _
         ·exact ⟨(HH.out.been.setOther (a := ⟨kb, 4, none⟩) (Ne.symm hne2) _).alloc _, (HH.out.here.setOther (a := ⟨kb, 4, none⟩) (Ne.symm hne3) _).alloc _⟩
         rintro e w3 ⟨⟨rfl, hk3, s3, hh3, ho3, hs3⟩, hkb3, hbl3⟩
         have HH3 := Lib.hid hh3
         have HO3 := Lib.hid ho3
         have HK3 := Lib.hid hkb3
         cases hm : E.may p.sig (k : Int) s1 with
         | none =>
           have hmn : p.may = false := by rw [HM.out, Prog.mayTops_stop p.sig hlt HA.out (HT2.out.trans hm)]; rfl
           have HE := Lib.hid (Prog.mayE_no hmn)
           clear hmn hm hk3 hh3 ho3 hs3 hkb3
           go_wp2
           go_ret
           exact ⟨ret_i (by rw [HE.out]), hbl3⟩
         | some s4 =>
           obtain rfl := hs3 s4 hm
           have HA3 := Lib.hid (HT2.out.trans hm)
           clear hm hk3 hh3 ho3 hs3 hkb3
           go_wp2
           go_roundw
           case rel => exact ⟨k + 1, s3, (k : Int), hlt, by go_num, HA3, HO3, HH3, HK3, hbl3⟩
           case measure => simp [intOf]; omega
        ·have g5 : ∀ v ob, ((wr.setCell ⟨kb, 4, none⟩ v).alloc ob).cell? ⟨kb, 4, none⟩ = some v := fun v ob => (((HK.out.set 4 v).alloc ob).cell 4).trans rfl
         have f5 : ∀ v ob, ((wr.setCell ⟨kb, 4, none⟩ v).alloc ob).frozen? ⟨kb, 4, none⟩ = false := fun v ob => ((HK.out.set 4 v).alloc ob).free 4
         by_cases h5 : E.kind = 5
         ·have e1 : (E.kind != 5) = false := by simp [h5]
          have HT2 := Lib.hid (show Prog.mayTops p.sig 0 (p.tops.take (k + 1)) (Bnd.fresh n) = E.may p.sig ((k : Int) + 1) s1 by rw [HT.out]; simp [h5])
          clear HT h5
          go_wp2_with fail
          refine (HC.out _ ((k : Int) + 1) (((HK.out.set 4 _).set 4 _).alloc _) ?_ ?_).mono ?_
          ·exact ((hbel.setCell (p := ⟨kb, 4, none⟩) HB1.out.2.2.1 _).setCell (p := ⟨kb, 4, none⟩) HB1.out.2.2.1 _).alloc (by simp; omega) _
          ·exact ⟨((HH.out.been.setOther (a := ⟨kb, 4, none⟩) (Ne.symm hne2) _).setOther (a := ⟨kb, 4, none⟩) (Ne.symm hne2) _).alloc _, ((HH.out.here.setOther (a := ⟨kb, 4, none⟩) (Ne.symm hne3) _).setOther (a := ⟨kb, 4, none⟩) (Ne.symm hne3) _).alloc _⟩
          rintro e w3 ⟨⟨rfl, hk3, s3, hh3, ho3, hs3⟩, hkb3, hbl3⟩
          have HH3 := Lib.hid hh3
          have HO3 := Lib.hid ho3
          have HK3 := Lib.hid hkb3
          cases hm : E.may p.sig ((k : Int) + 1) s1 with
          | none =>
            have hmn : p.may = false := by rw [HM.out, Prog.mayTops_stop p.sig hlt HA.out (HT2.out.trans hm)]; rfl
            have HE := Lib.hid (Prog.mayE_no hmn)
            clear hmn hm hk3 hh3 ho3 hs3 hkb3
            go_wp2
            go_ret
            exact ⟨ret_i (by rw [HE.out]), hbl3⟩
          | some s4 =>
            obtain rfl := hs3 s4 hm
            have HA3 := Lib.hid (HT2.out.trans hm)
            clear hm hk3 hh3 ho3 hs3 hkb3
            go_wp2
            go_roundw
            case rel => exact ⟨k + 1, s3, ((k : Int) + 1), hlt, by go_num, HA3, HO3, HH3, HK3, hbl3⟩
            case measure => simp [intOf]; omega
         ·have e1 : (E.kind != 5) = true := by simp [h5]
          have HT2 := Lib.hid (show Prog.mayTops p.sig 0 (p.tops.take (k + 1)) (Bnd.fresh n) = none by rw [HT.out, if_pos ⟨rfl, h5⟩])
          have hmn : p.may = false := by rw [HM.out, Prog.mayTops_stop p.sig hlt HA.out HT2.out]; rfl
          have HE := Lib.hid (Prog.mayE_no hmn)
          clear HT h5 hmn
          go_wp2
          go_ret
          exact ⟨ret_i (by rw [HE.out]), ((hbel.setCell (p := ⟨kb, 4, none⟩) HB1.out.2.2.1 _).setCell (p := ⟨kb, 4, none⟩) HB1.out.2.2.1 _).alloc (by simp; omega) _⟩
       ·have hall : Prog.mayTops p.sig 0 p.tops (Bnd.fresh n) = some s1 := by have := HA.out; rwa [List.take_of_length_le (by omega)] at this
        have hmy : p.may = true := by rw [HM.out, hall]; rfl
        have HE := Lib.hid (Prog.mayE_yes hmy)
        clear hall hmy
        go_wp2
        go_ret
        exact ⟨ret_i (by rw [HE.out]), hbel⟩
     ·
      obtain ⟨bb, hbb⟩ : ∃ x, w2.heap.size + 1 = x := ⟨_, rfl⟩
      obtain ⟨hb, hhb⟩ : ∃ x, w2.heap.size = x := ⟨_, rfl⟩
      obtain ⟨kb, hkb'⟩ : ∃ x, w2.heap.size + 1 + 1 = x := ⟨_, rfl⟩
      obtain ⟨W1, hW1⟩ : ∃ W, (((w2.alloc (.cells (bools (List.replicate n false)) 4)).alloc (.cells (bools (List.replicate n false)) 4)).alloc (.cells #[dv, cv, .slice at_ p.tops.length ct, .int .i64 n, .int .i64 0, .slice (some ⟨w2.heap.size + 1, 0, none⟩) n n, .slice (some ⟨w2.heap.size, 0, none⟩) n n] 59)).drew = W := ⟨_, rfl⟩
      have b0 : Blk W1 w2.heap.size (bools (List.replicate n false)) 4 := by rw [← hW1]; exact Blk.drew (((Blk.new w2 _ _ _ rfl).alloc _).alloc _)
      have b1 : Blk W1 (w2.heap.size + 1) (bools (List.replicate n false)) 4 := by rw [← hW1]; exact Blk.drew ((Blk.new _ _ _ _ (by simp)).alloc _)
      have hk1 : Blk W1 kb (lkC dv cv (.slice at_ p.tops.length ct) n 0 bb hb n) 59 := by rw [← hW1, ← hbb, ← hhb, ← hkb']; exact Blk.drew (Blk.new _ _ _ _ (by simp))
      have hh1 : Holds W1 bb hb 4 (Bnd.fresh n) := ⟨by rw [← hbb]; exact b1, by rw [← hhb]; exact b0⟩
      have hbl1 : Below w.heap.size w W1 := by
       rw [← hW1]
       have hw2 : w.heap.size ≤ w2.heap.size := by omega
       (repeat (with_reducible first | exact hb3 | refine Below.setCell ?_ ?_ _ | refine Below.alloc ?_ ?_ _ | refine Below.drewN ?_ _ | refine Below.drew ?_)) <;> first | omega | (simp; omega) | (simp; done)
      have hszW : W1.heap.size = w2.heap.size + 3 := by rw [← hW1]; simp
      have hx1 : W1.cell? ⟨w.heap.size, 2, none⟩ = some (.slice at_ p.tops.length ct) := by
       rw [← hW1]
       exact (cell_al3 x2 hltb _ _ _)
      rw [hW1]
      simp only [hkb']
      simp only [hbb]
      simp only [hhb]
      have hne1 : bb ≠ hb := by omega
      have hne2 : kb ≠ bb := by omega
      have hne3 : kb ≠ hb := by omega
      have hB1 : w.heap.size ≤ bb ∧ w.heap.size ≤ hb ∧ w.heap.size ≤ kb ∧ w.heap.size < W1.heap.size := by omega
      have HB1 := Lib.hid hB1
      have hX : ∀ q, (q = bb ∨ q = hb ∨ q = kb) → w.heap.size ≤ q := by rintro q (rfl | rfl | rfl) <;> omega
      have HX := Lib.hid hX
      clear hW1 b0 b1 hbb hhb hkb' hszW x0 x1 x2 x3 y0 y1 y2 y3 z0 z1 z2 z3 hb2 hbx hsz2 hb3 hmk hX hltb
      go_wp2
      go_loopw [38] (fun u wr => ∃ (k : Nat) (s1 : Bnd) (tp : Int), k ≤ p.tops.length ∧ u = .int .i64 k ∧ Hid (Prog.mayTops p.sig 0 (p.tops.take k) (Bnd.fresh n) = some s1) ∧ Hid (s1.Of n) ∧ Hid (Holds wr bb hb 4 s1) ∧ Hid (Blk wr kb (lkC dv cv (.slice at_ p.tops.length ct) n tp bb hb n) 59) ∧ Below w.heap.size w wr) (fun u _ => p.tops.length - (intOf u).toNat)
      case atStart => exact ⟨0, Bnd.fresh n, 0, Nat.zero_le _, rfl, rfl, Lib.hid ⟨by simp [Bnd.fresh], by simp [Bnd.fresh]⟩, Lib.hid hh1, Lib.hid hk1, hbl1⟩
      case round =>
       obtain ⟨k, s1, tp, hkl, rfl, HA, HO, HH, HK, hbel⟩ := hrel
       have hszr := hbel.size
       have hkw := HK.out.lt
       by_cases hlt : k < p.tops.length
       ·obtain ⟨b, off, cap', us', hv, hblt, hc, hcell, hus⟩ := GT.out.elem Top.d_len rfl k hlt (by omega)
        injection hv with ha hn' hcap
        subst ha hcap
        obtain ⟨ue, rfl, hue, -⟩ := Top.cells hus
        have HUE := Lib.hid hue
        have hsz := SM.out.top k hlt
        have HT := Lib.hid (Prog.mayTops_take p.sig hlt HA.out)
        obtain ⟨E, hE⟩ : ∃ E, (p.tops[k]).e = E := ⟨_, rfl⟩
        obtain ⟨R, hR⟩ : ∃ R, (p.tops[k]).rc = R := ⟨_, rfl⟩
        obtain ⟨nm, hnm⟩ : ∃ R, (p.tops[k]).name = R := ⟨_, rfl⟩
        simp only [hE, hR, hnm] at HUE hsz HT hcell hue
        obtain ⟨v7, v8, rfl, g7, g8, -⟩ := Core.cells hue
        obtain ⟨a7, c7, rfl⟩ := g7.slice_inv
        obtain ⟨a8, c8, rfl⟩ := g8.slice_inv
        have c0 := (hbel.cell (p := ⟨b, off + k * 11, none⟩) hblt).trans (hcell 0 _ rfl)
        have c1 := (hbel.cell (p := ⟨b, off + k * 11 + 1, none⟩) hblt).trans (hcell 1 _ rfl)
        have c2 := (hbel.cell (p := ⟨b, off + k * 11 + 2, none⟩) hblt).trans (hcell 2 _ rfl)
        have c3 := (hbel.cell (p := ⟨b, off + k * 11 + 3, none⟩) hblt).trans (hcell 3 _ rfl)
        have c4 := (hbel.cell (p := ⟨b, off + k * 11 + 4, none⟩) hblt).trans (hcell 4 _ rfl)
        have c5 := (hbel.cell (p := ⟨b, off + k * 11 + 5, none⟩) hblt).trans (hcell 5 _ rfl)
        have c6 := (hbel.cell (p := ⟨b, off + k * 11 + 6, none⟩) hblt).trans (hcell 6 _ rfl)
        have c7' := (hbel.cell (p := ⟨b, off + k * 11 + 7, none⟩) hblt).trans (hcell 7 _ rfl)
        have c8' := (hbel.cell (p := ⟨b, off + k * 11 + 8, none⟩) hblt).trans (hcell 8 _ rfl)
        have c9 := (hbel.cell (p := ⟨b, off + k * 11 + 9, none⟩) hblt).trans (hcell 9 _ rfl)
        have c10 := (hbel.cell (p := ⟨b, off + k * 11 + 10, none⟩) hblt).trans (hcell 10 _ rfl)
        have g4 : ∀ ob, (wr.alloc ob).cell? ⟨kb, 4, none⟩ = some (.int .i64 tp) := fun ob => ((HK.out.alloc ob).cell 4).trans rfl
        have f4 : ∀ ob, (wr.alloc ob).frozen? ⟨kb, 4, none⟩ = false := fun ob => (HK.out.alloc ob).free 4
        have hcore := fun (W : World) (tp' : Int) (hkW : Blk W kb (lkC dv cv (.slice (some ⟨b, off, none⟩) p.tops.length ct) n tp' bb hb n) 59) (hbW : Below w.heap.size w W) (hhW : Holds W bb hb 4 s1) =>
         (core_ok p.sig tp' kb bb hb n w.heap.size dv cv (.slice (some ⟨b, off, none⟩) p.tops.length ct) n SM.out.sig.nc (fun i h => (SM.out.sig.con i h).2.1) HB1.out.1 HB1.out.2.1 hne1 hne2 hne3 hn1 E.size W hkW hbW.size (GC.out.keep hbW) E _ s1 W (Nat.le_refl _) hsz (Kept.refl _ _) (HUE.out.keep hbW) hhW HO.out).mono fun e w' (h : Ans (E.may p.sig tp' s1) bb hb n W e w') =>
           (⟨h, h.2.1.blk hkW (Xs.not hne2 hne3), hbW.trans (h.2.1.low (fun q hq => by rcases hq with rfl | rfl; exact HB1.out.1; exact HB1.out.2.1) hbW.size)⟩ : Ans (E.may p.sig tp' s1) bb hb n W e w' ∧ Blk w' kb (lkC dv cv (.slice (some ⟨b, off, none⟩) p.tops.length ct) n tp' bb hb n) 59 ∧ Below w.heap.size w w')
        have HC := Lib.hid hcore
        clear hcell hus hue g7 g8 hcore hE hR hnm
        cases R
        ·have HT2 := Lib.hid (show Prog.mayTops p.sig 0 (p.tops.take (k + 1)) (Bnd.fresh n) = E.may p.sig (k : Int) s1 by rw [HT.out]; simp)
         clear HT
         go_wp2_with fail
         refine (HC.out _ (k : Int) ((HK.out.set 4 _).alloc _) ?_ ?_).mono ?_
         ·exact (hbel.setCell (p := ⟨kb, 4, none⟩) HB1.out.2.2.1 _).alloc (by simp; omega) _
         ·exact ⟨(HH.out.been.setOther (a := ⟨kb, 4, none⟩) (Ne.symm hne2) _).alloc _, (HH.out.here.setOther (a := ⟨kb, 4, none⟩) (Ne.symm hne3) _).alloc _⟩
         rintro e w3 ⟨⟨rfl, hk3, s3, hh3, ho3, hs3⟩, hkb3, hbl3⟩
         have HH3 := Lib.hid hh3
         have HO3 := Lib.hid ho3
         have HK3 := Lib.hid hkb3
         cases hm : E.may p.sig (k : Int) s1 with
         | none =>
           have hmn : p.may = false := by rw [HM.out, Prog.mayTops_stop p.sig hlt HA.out (HT2.out.trans hm)]; rfl
           have HE := Lib.hid (Prog.mayE_no hmn)
           clear hmn hm hk3 hh3 ho3 hs3 hkb3
           go_wp2
           go_ret
           exact ⟨ret_i (by rw [HE.out]), hbl3⟩
         | some s4 =>
           obtain rfl := hs3 s4 hm
           have HA3 := Lib.hid (HT2.out.trans hm)
           clear hm hk3 hh3 ho3 hs3 hkb3
           go_wp2
           go_roundw
           case rel => exact ⟨k + 1, s3, (k : Int), hlt, by go_num, HA3, HO3, HH3, HK3, hbl3⟩
           case measure => simp [intOf]; omega
        ·have g5 : ∀ v ob, ((wr.setCell ⟨kb, 4, none⟩ v).alloc ob).cell? ⟨kb, 4, none⟩ = some v := fun v ob => (((HK.out.set 4 v).alloc ob).cell 4).trans rfl
         have f5 : ∀ v ob, ((wr.setCell ⟨kb, 4, none⟩ v).alloc ob).frozen? ⟨kb, 4, none⟩ = false := fun v ob => ((HK.out.set 4 v).alloc ob).free 4
         by_cases h5 : E.kind = 5
         ·have e1 : (E.kind != 5) = false := by simp [h5]
          have HT2 := Lib.hid (show Prog.mayTops p.sig 0 (p.tops.take (k + 1)) (Bnd.fresh n) = E.may p.sig ((k : Int) + 1) s1 by rw [HT.out]; simp [h5])
          clear HT h5
          go_wp2_with fail
          refine (HC.out _ ((k : Int) + 1) (((HK.out.set 4 _).set 4 _).alloc _) ?_ ?_).mono ?_
          ·exact ((hbel.setCell (p := ⟨kb, 4, none⟩) HB1.out.2.2.1 _).setCell (p := ⟨kb, 4, none⟩) HB1.out.2.2.1 _).alloc (by simp; omega) _
          ·exact ⟨((HH.out.been.setOther (a := ⟨kb, 4, none⟩) (Ne.symm hne2) _).setOther (a := ⟨kb, 4, none⟩) (Ne.symm hne2) _).alloc _, ((HH.out.here.setOther (a := ⟨kb, 4, none⟩) (Ne.symm hne3) _).setOther (a := ⟨kb, 4, none⟩) (Ne.symm hne3) _).alloc _⟩
          rintro e w3 ⟨⟨rfl, hk3, s3, hh3, ho3, hs3⟩, hkb3, hbl3⟩
          have HH3 := Lib.hid hh3
          have HO3 := Lib.hid ho3
          have HK3 := Lib.hid hkb3
          cases hm : E.may p.sig ((k : Int) + 1) s1 with
          | none =>
            have hmn : p.may = false := by rw [HM.out, Prog.mayTops_stop p.sig hlt HA.out (HT2.out.trans hm)]; rfl
            have HE := Lib.hid (Prog.mayE_no hmn)
            clear hmn hm hk3 hh3 ho3 hs3 hkb3
            go_wp2
            go_ret
            exact ⟨ret_i (by rw [HE.out]), hbl3⟩
          | some s4 =>
            obtain rfl := hs3 s4 hm
            have HA3 := Lib.hid (HT2.out.trans hm)
            clear hm hk3 hh3 ho3 hs3 hkb3
            go_wp2
            go_roundw
            case rel => exact ⟨k + 1, s3, ((k : Int) + 1), hlt, by go_num, HA3, HO3, HH3, HK3, hbl3⟩
            case measure => simp [intOf]; omega
         ·have e1 : (E.kind != 5) = true := by simp [h5]
          have HT2 := Lib.hid (show Prog.mayTops p.sig 0 (p.tops.take (k + 1)) (Bnd.fresh n) = none by rw [HT.out, if_pos ⟨rfl, h5⟩])
          have hmn : p.may = false := by rw [HM.out, Prog.mayTops_stop p.sig hlt HA.out HT2.out]; rfl
          have HE := Lib.hid (Prog.mayE_no hmn)
          clear HT h5 hmn
          go_wp2
          go_ret
          exact ⟨ret_i (by rw [HE.out]), ((hbel.setCell (p := ⟨kb, 4, none⟩) HB1.out.2.2.1 _).setCell (p := ⟨kb, 4, none⟩) HB1.out.2.2.1 _).alloc (by simp; omega) _⟩
       ·have hall : Prog.mayTops p.sig 0 p.tops (Bnd.fresh n) = some s1 := by have := HA.out; rwa [List.take_of_length_le (by omega)] at this
        have hmy : p.may = true := by rw [HM.out, hall]; rfl
        have HE := Lib.hid (Prog.mayE_yes hmy)
        clear hall hmy
        go_wp2
        go_ret
        exact ⟨ret_i (by rw [HE.out]), hbel⟩
    ·have t3 : decide ((1048576 : Int) < p.vars) = true := decide_eq_true (by omega)
     go_enter Tryz.func6, Tryz.ntmps6
     go_wp2_with fail
     refine (HD.out _ (by (repeat (with_reducible first | exact Below.refl _ _ | refine Below.setCell ?_ ?_ _ | refine Below.alloc ?_ ?_ _ | refine Below.drewN ?_ _ | refine Below.drew ?_)) <;> first | omega | (simp; omega) | (simp; done))).mono ?_
     rintro e w2 ⟨rfl, hb2⟩
     have hsz2 := hb2.size
     have hb3 : Below w.heap.size w w2 := by
      refine Below.trans ?_ (hb2.mono (by first | omega | (simp; omega) | (simp; done)))
      (repeat (with_reducible first | exact Below.refl _ _ | refine Below.setCell ?_ ?_ _ | refine Below.alloc ?_ ?_ _ | refine Below.drewN ?_ _ | refine Below.drew ?_)) <;> first | omega | (simp; omega) | (simp; done)
     have hbx := (Blk.new w _ #[dv, cv, .slice at_ p.tops.length ct, .int .i64 p.vars] 28 rfl).below hb2 (by simp)
     have x0 : w2.cell? ⟨w.heap.size, 0, none⟩ = some dv := (hbx.cell 0).trans rfl
     have x1 : w2.cell? ⟨w.heap.size, 1, none⟩ = some cv := (hbx.cell 1).trans rfl
     have x2 : w2.cell? ⟨w.heap.size, 2, none⟩ = some (.slice at_ p.tops.length ct) := (hbx.cell 2).trans rfl
     have x3 : w2.cell? ⟨w.heap.size, 3, none⟩ = some (.int .i64 p.vars) := (hbx.cell 3).trans rfl
     have HM := Lib.hid (Prog.mayE_no (Prog.may_no (p := p) (by rintro ⟨g1, g2, g3, g4⟩; omega)))
     go_wp2
     go_ret
     exact ⟨ret_i (by rw [HM.out]), hb3⟩
   ·have t2 : decide (p.vars < 0) = true := decide_eq_true (by omega)
    go_enter Tryz.func6, Tryz.ntmps6
    go_wp2_with fail
    refine (HD.out _ (by (repeat (with_reducible first | exact Below.refl _ _ | refine Below.setCell ?_ ?_ _ | refine Below.alloc ?_ ?_ _ | refine Below.drewN ?_ _ | refine Below.drew ?_)) <;> first | omega | (simp; omega) | (simp; done))).mono ?_
    rintro e w2 ⟨rfl, hb2⟩
    have hsz2 := hb2.size
    have hb3 : Below w.heap.size w w2 := by
     refine Below.trans ?_ (hb2.mono (by first | omega | (simp; omega) | (simp; done)))
     (repeat (with_reducible first | exact Below.refl _ _ | refine Below.setCell ?_ ?_ _ | refine Below.alloc ?_ ?_ _ | refine Below.drewN ?_ _ | refine Below.drew ?_)) <;> first | omega | (simp; omega) | (simp; done)
    have hbx := (Blk.new w _ #[dv, cv, .slice at_ p.tops.length ct, .int .i64 p.vars] 28 rfl).below hb2 (by simp)
    have x0 : w2.cell? ⟨w.heap.size, 0, none⟩ = some dv := (hbx.cell 0).trans rfl
    have x1 : w2.cell? ⟨w.heap.size, 1, none⟩ = some cv := (hbx.cell 1).trans rfl
    have x2 : w2.cell? ⟨w.heap.size, 2, none⟩ = some (.slice at_ p.tops.length ct) := (hbx.cell 2).trans rfl
    have x3 : w2.cell? ⟨w.heap.size, 3, none⟩ = some (.int .i64 p.vars) := (hbx.cell 3).trans rfl
    have HM := Lib.hid (Prog.mayE_no (Prog.may_no (p := p) (by rintro ⟨g1, g2, g3, g4⟩; omega)))
    go_wp2
    go_ret
    exact ⟨ret_i (by rw [HM.out]), hb3⟩
  ·have t1 : decide ((60 : Int) < (p.tops.length : Int)) = true := decide_eq_true (by omega)
   go_enter Tryz.func6, Tryz.ntmps6
   go_wp2_with fail
   refine (HD.out _ (by (repeat (with_reducible first | exact Below.refl _ _ | refine Below.setCell ?_ ?_ _ | refine Below.alloc ?_ ?_ _ | refine Below.drewN ?_ _ | refine Below.drew ?_)) <;> first | omega | (simp; omega) | (simp; done))).mono ?_
   rintro e w2 ⟨rfl, hb2⟩
   have hsz2 := hb2.size
   have hb3 : Below w.heap.size w w2 := by
    refine Below.trans ?_ (hb2.mono (by first | omega | (simp; omega) | (simp; done)))
    (repeat (with_reducible first | exact Below.refl _ _ | refine Below.setCell ?_ ?_ _ | refine Below.alloc ?_ ?_ _ | refine Below.drewN ?_ _ | refine Below.drew ?_)) <;> first | omega | (simp; omega) | (simp; done)
   have hbx := (Blk.new w _ #[dv, cv, .slice at_ p.tops.length ct, .int .i64 p.vars] 28 rfl).below hb2 (by simp)
   have x0 : w2.cell? ⟨w.heap.size, 0, none⟩ = some dv := (hbx.cell 0).trans rfl
   have x1 : w2.cell? ⟨w.heap.size, 1, none⟩ = some cv := (hbx.cell 1).trans rfl
   have x2 : w2.cell? ⟨w.heap.size, 2, none⟩ = some (.slice at_ p.tops.length ct) := (hbx.cell 2).trans rfl
   have x3 : w2.cell? ⟨w.heap.size, 3, none⟩ = some (.int .i64 p.vars) := (hbx.cell 3).trans rfl
   have HM := Lib.hid (Prog.mayE_no (Prog.may_no (p := p) (by rintro ⟨g1, g2, g3, g4⟩; omega)))
   go_wp2
   go_ret
   exact ⟨ret_i (by rw [HM.out]), hb3⟩
 ·have hS' : p.sig.may = false := by simpa using hS
  rw [Sig.mayE_no hS'] at HD
  simp only [hdv, hcv] at *
  clear hdv hcv
  go_enter Tryz.func6, Tryz.ntmps6
  go_wp2_with fail
  refine (HD.out _ (by (repeat (with_reducible first | exact Below.refl _ _ | refine Below.setCell ?_ ?_ _ | refine Below.alloc ?_ ?_ _ | refine Below.drewN ?_ _ | refine Below.drew ?_)) <;> first | omega | (simp; omega) | (simp; done))).mono ?_
  rintro e w2 ⟨rfl, hb2⟩
  have hsz2 := hb2.size
  have hb3 : Below w.heap.size w w2 := by
   refine Below.trans ?_ (hb2.mono (by first | omega | (simp; omega) | (simp; done)))
   (repeat (with_reducible first | exact Below.refl _ _ | refine Below.setCell ?_ ?_ _ | refine Below.alloc ?_ ?_ _ | refine Below.drewN ?_ _ | refine Below.drew ?_)) <;> first | omega | (simp; omega) | (simp; done)
  have hbx := (Blk.new w _ #[dv, cv, .slice at_ p.tops.length ct, .int .i64 p.vars] 28 rfl).below hb2 (by simp)
  have x0 : w2.cell? ⟨w.heap.size, 0, none⟩ = some dv := (hbx.cell 0).trans rfl
  have x1 : w2.cell? ⟨w.heap.size, 1, none⟩ = some cv := (hbx.cell 1).trans rfl
  have x2 : w2.cell? ⟨w.heap.size, 2, none⟩ = some (.slice at_ p.tops.length ct) := (hbx.cell 2).trans rfl
  have x3 : w2.cell? ⟨w.heap.size, 3, none⟩ = some (.int .i64 p.vars) := (hbx.cell 3).trans rfl
  have HM := Lib.hid (Prog.mayE_no (Prog.may_no (p := p) (by rintro ⟨g1, g2, g3, g4⟩; exact hS g1)))
  go_wp2
  go_ret
  exact ⟨ret_i (by rw [HM.out]), hb3⟩
end Go.Proofs.YtdhodaefgliphaaGreatDoor
