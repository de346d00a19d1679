/- Contracts: data.May. -/
import Derived.Test.YtdhodaefgliphaaGreatDoorDatP
import Derived.Test.YtdhodaefgliphaaGreatDoorIdg
import Derived.Deep.RegionHeld3
import Derived.Deep.RegionLaw
import Derived.Deep.DeepCutAuto
import Derived.WalkSpells
set_option linter.unusedVariables false
set_option linter.unusedSimpArgs false
namespace Go.Proofs.YtdhodaefgliphaaGreatDoor
open Go.RowKit Go.Maps Go.WideMaps
structure Sig.Small (s : Sig) : Prop where
 nd : s.datas.length ≤ 1048576
 nc : s.cons.length ≤ 1048576
 con : ∀ i (h : i < s.cons.length), s.cons[i].name.size ≤ 1048576 ∧ s.cons[i].fields.length ≤ 1048576 ∧ s.cons[i].mults.length ≤ 1048576 ∧ ∀ k (hk : k < s.cons[i].fields.length), s.cons[i].fields[k].size ≤ 1048576
 data : ∀ i (h : i < s.datas.length), s.datas[i].name.size ≤ 1048576 ∧ s.datas[i].cons.length ≤ 1048576
theorem cbytes (nm : ByteArray) : (({ data := #[99] } : ByteArray) ++ nm).data.toList = 99 :: nm.data.toList := by
 rw [ByteArray.data_append]; simp
theorem csize (nm : ByteArray) : (({ data := #[99] } : ByteArray) ++ nm).size = nm.size + 1 := by
 rw [ByteArray.size_append]; show 1 + nm.size = _; omega
def FieldPost (v : Value) (wx wr : World) (okk : Bool) : Prop := ∃ bad : Bool, v = .bool bad ∧ bad = (!okk) ∧ Below wr.heap.size wr wx
theorem FieldPost.mk {wx wr : World} {okk : Bool} (bad : Bool) (h : bad = !okk) (hb : Below wr.heap.size wr wx) : FieldPost (.bool bad) wx wr okk := ⟨bad, rfl, h, hb⟩
theorem dbytes (nm : ByteArray) : (({ data := #[100] } : ByteArray) ++ nm).data.toList = 100 :: nm.data.toList := by
 rw [ByteArray.data_append]; simp
theorem dsize (nm : ByteArray) : (({ data := #[100] } : ByteArray) ++ nm).size = nm.size + 1 := by
 rw [ByteArray.size_append]; show 1 + nm.size = _; omega
theorem rds_ints {w : World} {B : Nat} : ∀ (l : List Int) (xs : List Value), Rds w B xs (l.map (D.int .i64)) → xs = i64s l
 | [], xs, h => h.nil_inv
 | z :: l, xs, h => by
   obtain ⟨u, us, rfl, hu, ht⟩ := h.cons_inv
   obtain ⟨rfl, _⟩ := hu.int_inv
   rw [rds_ints l us ht]; rfl
theorem rd_ints {w : World} {B : Nat} {v : Value} {l : List Int} (h : Rd w B v (.list 1 l.length (l.map (D.int .i64)))) : Row w B 1 v l.length (i64s l) := by
 obtain ⟨xs, hr, hx⟩ := h.list_inv
 rw [rds_ints l xs hx] at hr
 exact hr
theorem enters40 : Enters Tryz.prog 30 := enters Tryz.func30 (by kernel_rfl) rfl
structure DInv (s : Sig) (w wr : World) (dv cv : Value) (m n : Nat) (seen : List (List UInt8)) (F : Nat → List Int) : Prop where
 bel : Below w.heap.size w wr
 box : Blk wr w.heap.size #[dv, cv] 25
 var : Blk wr (w.heap.size + 1 + 1 + 1) #[.map (some (w.heap.size + 1 + 1))] 83
 own : ∃ D, wr.ownsMap Tryz.prog 9 mapI (w.heap.size + 1 + 1) m D ∧ Names D seen
 of_ : OfInv wr (w.heap.size + 1) (w.heap.size + 4) n F
 lt : w.heap.size + 1 + 1 + 1 < wr.heap.size
theorem DInv.drewN {s : Sig} {w wr : World} {dv cv : Value} {m n : Nat} {seen : List (List UInt8)} {F : Nat → List Int} (h : DInv s w wr dv cv m n seen F) (k : Nat) : DInv s w (wr.drewN k) dv cv m n seen F :=
 ⟨Below.drewN h.bel k, h.box, h.var, (by obtain ⟨D, h1, h2⟩ := h.own; exact ⟨D, ownsMap_of h1 rfl, h2⟩), h.of_.below (Below.drewN (Below.refl _ _) k), h.lt⟩
set_option maxRecDepth 100000 in
set_option maxHeartbeats 8000000 in
theorem dmay_any (s : Sig) (ss : List Value) (w : World) (hsm : s.Small) (hss : Rds w w.heap.size ss s.d) :
  Calls Tryz.prog 13 #[.agg ss.toArray] w fun e w' => e = .returned (.int .i64 s.mayE) ∧ Below w.heap.size w w' := by
 obtain ⟨dv, cv, rfl, hdv, hcv⟩ := Sig.cells hss
 have HD := Lib.hid hdv
 have HC := Lib.hid hcv
 obtain ⟨ad, cd, rfl⟩ := hdv.slice_inv
 obtain ⟨ac, cc, rfl⟩ := hcv.slice_inv
 clear hdv hcv hss
 have hd := hsm.nd
 have hc := hsm.nc
 by_cases hbig : s.datas.length ≤ 40 ∧ s.cons.length ≤ 100
 ·obtain ⟨h40, h100⟩ := hbig
  have hmm := @run_makeMap Tryz.prog
  have hmk := make_rows s.datas.length (by omega)
  go_enter Tryz.func13, Tryz.ntmps13
  go_wp2_with fail
  go_loopw [31] (fun u wr => ∃ i : Nat, i ≤ s.cons.length ∧ u = .int .i64 i ∧ Hid (∀ j, j < i → s.conOk j = true) ∧ DInv s w wr (.slice ad s.datas.length cd) (.slice ac s.cons.length cc) i s.datas.length (s.cseen i) (fun j => s.ofs j i)) (fun u _ => s.cons.length - (intOf u).toNat)
  case atStart =>
   refine ⟨0, Nat.zero_le _, rfl, fun j hj => absurd hj (Nat.not_lt_zero _), by (repeat (with_reducible first | exact Below.refl _ _ | refine Below.setCell ?_ ?_ _ | refine Below.alloc ?_ ?_ _ | refine Below.drewN ?_ _ | refine Below.drew ?_)) <;> first | omega | (simp; omega) | (simp; done), ?_, ?_, ⟨_, ?_, Names.nil⟩, OfInv.start ?_, (by first | omega | (simp; omega) | (simp; done))⟩
   ·exact (((Blk.new w _ _ _ rfl).alloc _).alloc _).alloc _
   ·exact Blk.new _ _ _ _ (by simp)
   ·exact by have := (World.ownsMap_made (H := Unit) ((w.alloc (.cells #[.slice ad s.datas.length cd, .slice ac s.cons.length cc] 25)).alloc (.cells (zeroRows s.datas.length) 53)) Tryz.prog 9 mapI).alloc (.cells #[.map (some (w.heap.size + 1 + 1))] 83); simpa using this
   ·exact ((Blk.new _ _ _ _ (by simp)).alloc _).alloc _
  case round =>
   obtain ⟨i, hi, rfl, HE, inv⟩ := hrel
   obtain ⟨wo, hwo⟩ : ∃ wo : World, wo = wr := ⟨_, rfl⟩
   subst hwo
   by_cases hlt : i < s.cons.length
   ·obtain ⟨b, off, cap', us, hv, hb, hcp, hcell, hus⟩ := HC.out.elem Con.d_len rfl i hlt (by omega)
    injection hv with ha _ hcap
    subst ha hcap
    obtain ⟨c, hc⟩ : ∃ c, s.cons[i] = c := ⟨_, rfl⟩
    rw [hc] at hus
    have HCI := Lib.hid hc
    obtain ⟨fv, mv, rfl, wn, wd, hf, hm⟩ := Con.cells hus
    obtain ⟨nm, dt, fs, ms⟩ := c
    simp only at hf hm wn wd hcell
    have hok : ∀ (B : Bool), s.conOk i = B → s.conOk i = B := fun _ h => h
    have hci : s.cons[i]? = some ⟨nm, dt, fs, ms⟩ := by rw [List.getElem?_eq_getElem hlt, hc]
    have hno : ¬(0 ≤ dt ∧ dt < s.datas.length ∧ fs.length ≤ 8 ∧ ms.length = fs.length) → s.mayE = 2 := fun h => Sig.mayE_no (Sig.may_con s i hlt (by simp only [Sig.conOk, hci, Sig.conHead]; rw [decide_eq_false h]; rfl))
    have HNO := Lib.hid hno
    have HCI2 := Lib.hid hci
    clear hok hno hci
    have c0 := (inv.bel.cell (p := ⟨b, off + i * 4, none⟩) hb).trans (hcell 0 _ rfl)
    have c1 := (inv.bel.cell (p := ⟨b, off + i * 4 + 1, none⟩) hb).trans (hcell 1 _ rfl)
    have c2 := (inv.bel.cell (p := ⟨b, off + i * 4 + 2, none⟩) hb).trans (hcell 2 _ rfl)
    have c3 := (inv.bel.cell (p := ⟨b, off + i * 4 + 3, none⟩) hb).trans (hcell 3 _ rfl)
    have HF := Lib.hid hf
    have HM := Lib.hid hm
    obtain ⟨fa, fc, rfl⟩ := hf.slice_inv
    obtain ⟨ma, mc, rfl⟩ := hm.slice_inv
    have x0 : wo.cell? ⟨w.heap.size, 0, none⟩ = some (.slice ad s.datas.length cd) := inv.box.cell 0
    have xlt := inv.lt
    have xl0 : w.heap.size < wo.heap.size := by omega
    obtain ⟨sn, sf, sm, st⟩ := hsm.con i hlt
    simp only [hc] at sn sf sm
    have ST := Lib.hid st
    obtain ⟨DD, hown, hND⟩ := inv.own
    have HO := Lib.hid hown
    have HND := Lib.hid hND
    have hsl := s.cseen_len i
    have hin := enters40
    unfold Enters at hin
    clear st hown hND
    clear hcell hus hf hm hc
    by_cases hdt : 0 ≤ dt
    ·obtain ⟨m, rfl⟩ := Int.eq_ofNat_of_zero_le hdt
     clear hdt
     by_cases hrest : m < s.datas.length ∧ fs.length ≤ 8 ∧ ms.length = fs.length
     ·obtain ⟨g1, g2, g3⟩ := hrest
      have t1 : decide (s.datas.length ≤ m) = false := decide_eq_false (by omega)
      have t2 : decide ((8 : Int) < (fs.length : Int)) = false := decide_eq_false (by omega)
      have t3 : ((ms.length : Int) != (fs.length : Int)) = false := by simp [g3]
      have G3 := Lib.hid g3
      clear g3
      go_wp2_with fail
      have e99 := cbytes nm
      obtain ⟨N, hN⟩ : ∃ N, (s.cseen i).count (99 :: nm.data.toList) = N := ⟨_, rfl⟩
      have HN9 := Lib.hid hN
      clear hN
      refine (twice_any _ (w.heap.size + 1 + 1 + 1) (w.heap.size + 1 + 1) i DD (s.cseen i) _ (by rw [csize]; unfold maxLen; omega) (by omega) (by omega) (by first | omega | (simp; omega) | (simp; done)) (by omega) ((inv.var.alloc _).cell 0) (HO.out.alloc _) HND.out).mono ?_
      rintro e w2 ⟨rfl, ⟨D2, hown2, hN2⟩, hg2⟩
      rw [e99] at hN2
      rw [e99, HN9.out]
      clear e99
      have HO2 := Lib.hid hown2
      have HN2 := Lib.hid hN2
      clear hown2 hN2
      have hcb2 : Blk w2 wo.heap.size #[.string nm, .int .i64 m, .slice fa fs.length fc, .slice ma ms.length mc] 88 := (Blk.new wo _ _ _ rfl).of (hg2.block _ (by simp) (by simp; omega))
      have bel2 : Below w.heap.size w w2 := (inv.bel.alloc (by first | omega | (simp; omega) | (simp; done)) _).grown hg2 (by first | omega | (simp; omega) | (simp; done)) (by rintro k ⟨⟩; omega)
      have of2 : OfInv w2 (w.heap.size + 1) (w.heap.size + 4) s.datas.length (fun j => s.ofs j i) := (inv.of_.below ((Below.refl _ _).alloc (Nat.le_refl _) _)).grown hg2 (by omega) (by omega)
      have box2 : Blk w2 w.heap.size #[.slice ad s.datas.length cd, .slice (some ⟨b, off, none⟩) s.cons.length cc] 25 := (inv.box.alloc _).of (hg2.block _ (by first | omega | (simp; omega) | (simp; done)) (by simp; omega))
      have var2 : Blk w2 (w.heap.size + 1 + 1 + 1) #[.map (some (w.heap.size + 1 + 1))] 83 := (inv.var.alloc _).of (hg2.block _ (by first | omega | (simp; omega) | (simp; done)) (by simp; try omega))
      have lt2 : wo.heap.size < w2.heap.size := by have := hg2.size; simp at this; omega
      by_cases hN0 : 0 < N
      ·rw [decide_eq_true hN0]
       go_wp2
       go_ret
       refine ⟨ret_i (Sig.mayE_no (Sig.may_con s i hlt ?_)).symm, bel2⟩
       simp only [Sig.conOk, HCI2.out, Sig.cname, HN9.out]
       rw [decide_eq_false (by omega : ¬ N = 0)]
       simp
      ·rw [decide_eq_false hN0]
       obtain ⟨vals, v1, vw2, vw3, v4⟩ := inv.of_
       have v2 : Blk w2 (w.heap.size + 1) vals 53 := (vw2.alloc _).of (hg2.block _ (by first | omega | (simp; omega) | (simp; done)) (by simp))
       have v3 : ∀ j (h : j < vals.size), w2.ownsRow (w.heap.size + 4) 3 1 vals[j] (s.ofs j i).length (i64s (s.ofs j i)) := fun j hj => own_keep (vw3 j hj) fun g hg => by
        have hl := (vw3 j hj).lt g hg
        rw [hg2.block g (by first | omega | (simp; omega) | (simp; done)) (by simp; omega), Below.heap_alloc _ _ _ hl.2]
       have hmv : m < vals.size := by omega
       have hown := v3 m hmv
       obtain ⟨V, hV⟩ : ∃ V, vals[m] = V := ⟨_, rfl⟩
       rw [hV] at hown
       have HV := Lib.hid hV
       have HOW := Lib.hid hown
       have hol := s.ofs_len m i
       have y1 : w2.cell? ⟨wo.heap.size, 1, none⟩ = some (.int .i64 m) := hcb2.cell 1
       have y2 : w2.cell? ⟨w.heap.size + 1, m, none⟩ = some V := by rw [v2.cell m, Array.getElem?_eq_getElem hmv, hV]
       have z1 : w2.frozen? ⟨w.heap.size + 1, m, none⟩ = false := v2.free m
       have za : ∀ o, ((w2.alloc o).drew).frozen? ⟨w.heap.size + 1, m, none⟩ = false := fun o => (Below.frozen (B := w2.heap.size) (((Below.refl _ w2).alloc (Nat.le_refl _) o).drew) (p := ⟨w.heap.size + 1, m, none⟩) v2.lt).trans z1
       have ya : ∀ o, ((w2.alloc o).drew).cell? ⟨w.heap.size + 1, m, none⟩ = some V := fun o => (Below.cell (B := w2.heap.size) (((Below.refl _ w2).alloc (Nat.le_refl _) o).drew) (p := ⟨w.heap.size + 1, m, none⟩) v2.lt).trans y2
       have xa : ∀ o, ((w2.alloc o).drew).cell? ⟨wo.heap.size, 1, none⟩ = some (.int .i64 m) := fun o => (Below.cell (B := w2.heap.size) (((Below.refl _ w2).alloc (Nat.le_refl _) o).drew) (p := ⟨wo.heap.size, 1, none⟩) lt2).trans y1
       have b1 : (0 : Int) ≤ (m : Int) := by omega
       have b2 : (m : Int) < (s.datas.length : Int) := by omega
       obtain ⟨i0, hi0, hz0, hz1, hz2⟩ := info_parts infoI
       have V3 := Lib.hid v3
       have V4 := Lib.hid v4
       have HS := Lib.hid v1
       have nV : V.ownBlock ≠ some wo.heap.size := by
        intro e
        have h1 := (vw3 m hmv).lt wo.heap.size (by rw [hV]; exact e)
        omega
       have nO : V.ownBlock ≠ some (w.heap.size + 1) := by
        intro e
        have h1 := (hown.lt _ e).1
        omega
       clear v1 v3 v4 vw2 vw3 hV hown of2
       go_upto_region 11 with fail
       go_cut [] (fun wx => Step11 w w2 wx V s.datas.length (fun j => s.ofs j (i + 1)))
       case first =>
        go_region_law
         ((refine step_append_lies _ (by rfl) _ _ _ (by rfl) (w.heap.size + 4) 3 i0 _ 1 8 Tryz.underlying53 hi0 hz0 hz1 hz2 rfl (by omega) V _ _ (by rfl) ((HOW.out.alloc _).drew)
             ⟨w2.heap.size, 0, none⟩ 1 1 [.int .i64 i] (by rfl) (by rfl) (World.news_of_block (cs := #[.int .i64 i]) (t := 3) (fr := (0, 0)) (heap_alloc_new w2 _)) (by simp [Value.oneCell'])
             (by omega) (by unfold maxLen; omega) (by omega) (by first | omega | (simp; omega) | (simp; done)) (w2.heap.size + 1) (by simp) ?_
           intro gg cap w1 hown1 hgrow hat hlt1
           have q1 : w1.cell? ⟨wo.heap.size, 1, none⟩ = some (.int .i64 m) := (hgrow.cell_far _ (by first | omega | (simp; omega) | (simp; done)) (Ne.symm nV)).trans (xa _)
           have q2 : w1.cell? ⟨w.heap.size + 1, m, none⟩ = some V := (hgrow.cell_far _ (by first | omega | (simp; omega) | (simp; done)) (Ne.symm nO)).trans (ya _)
           have q3 : w1.frozen? ⟨w.heap.size + 1, m, none⟩ = false := (hgrow.frozen_far _ (by first | omega | (simp; omega) | (simp; done)) (Ne.symm nO)).trans (za _)))
        all_goals
         go_wp2_with fail
         go_meet
         exact step11_of s w w2 w1 vals V m i _ gg cap _ _ HS.out hmv HV.out v2 V3.out V4.out HCI2.out rfl (by first | omega | (simp; omega) | (simp; done)) hown1 hgrow hat
       case rest =>
        have nK : ∀ k, k < w.heap.size + 4 → some k ≠ V.ownBlock := fun k hk e => by have := (HOW.out.lt k e.symm).1; omega
        have hq : ∀ k, k < w2.heap.size → k ≠ w.heap.size + 1 → some k ≠ V.ownBlock → wc.heap[k]? = w2.heap[k]? := hcut.keep
        have cbC : Blk wc wo.heap.size #[.string nm, .int .i64 m, .slice fa fs.length fc, .slice ma ms.length mc] 88 := hcb2.of (hq _ lt2 (by omega) (fun e => nV e.symm))
        have boxC : Blk wc w.heap.size #[.slice ad s.datas.length cd, .slice (some ⟨b, off, none⟩) s.cons.length cc] 25 := box2.of (hq _ (by first | omega | (simp; omega) | (simp; done)) (by omega) (nK _ (by omega)))
        have varC : Blk wc (w.heap.size + 1 + 1 + 1) #[.map (some (w.heap.size + 1 + 1))] 83 := var2.of (hq _ (by first | omega | (simp; omega) | (simp; done)) (by omega) (nK _ (by omega)))
        have mapC : wc.ownsMap Tryz.prog 9 mapI (w.heap.size + 1 + 1) (i + 1) D2 := ownsMap_of HO2.out (hq _ (by first | omega | (simp; omega) | (simp; done)) (by omega) (nK _ (by omega)))
        have belC : Below w.heap.size w wc := bel2.trans hcut.bel
        have ofC : OfInv wc (w.heap.size + 1) (w.heap.size + 4) s.datas.length (fun j => s.ofs j (i + 1)) := hcut.of_
        have ltC : wo.heap.size < wc.heap.size := Nat.lt_of_lt_of_le lt2 hcut.bel.size
        have MAPC := Lib.hid mapC
        have k2 : wc.cell? ⟨wo.heap.size, 2, none⟩ = some (.slice fa fs.length fc) := cbC.cell 2
        clear hq hcut mapC y1 y2 z1 za ya xa b1 b2 c0 c1 c2 c3 V3 V4 HV hcb2 box2 var2 bel2 HO2 HO
        go_wp2_with fail
        go_loopw [84] (fun u wq => ∃ k : Nat, k ≤ fs.length ∧ u = .int .i64 k ∧ Hid (∀ j, j < k → Sig.fieldOk s ⟨nm, m, fs, ms⟩ j = true) ∧ Below wc.heap.size wc wq) (fun u _ => fs.length - (intOf u).toNat)
        case atStart => exact ⟨0, Nat.zero_le _, rfl, fun j hj => absurd hj (Nat.not_lt_zero _), Below.refl _ _⟩
        case round =>
         obtain ⟨k, hk, rfl, HK, hbq⟩ := hrel
         have szq := hbq.size
         by_cases hkl : k < fs.length
         ·have hkm : k < ms.length := by have := G3.out; omega
          obtain ⟨tb, toff, tcap, tus, hv, htb, htc, htcell, htus⟩ := HF.out.elem Ty.d_len rfl k hkl (by omega)
          injection hv with ha _ hcap2
          subst ha hcap2
          obtain ⟨mb, moff, mcap, mus, hv, hmb, hmc, hmcell, hmus⟩ := (show Rd w w.heap.size _ (.list 1 ms.length (ms.flatMap fun z : Int => [D.int .u8 z])) by rw [ints_flat]; exact HM.out).elem (fun _ => rfl) rfl k hkm (by omega)
          injection hv with ha _ hcap3
          subst ha hcap3
          obtain ⟨mu0, mus', rfl, hmu, -⟩ := hmus.cons_inv
          obtain ⟨rfl, wmu⟩ := hmu.int_inv
          have belq : Below w.heap.size w wr := belC.trans (hbq.mono belC.size)
          have mc0 := (belq.cell (p := ⟨mb, moff + k * 1, none⟩) hmb).trans (hmcell 0 _ rfl)
          rw [Nat.mul_one] at mc0
          have hsz : (fs[k]).size ≤ 1048576 := by
           have := ST.out k
           simp only [HCI.out] at this
           exact this hkl
          obtain ⟨t, ht⟩ : ∃ t, fs[k] = t := ⟨_, rfl⟩
          obtain ⟨mz, hmz⟩ : ∃ z, ms[k] = z := ⟨_, rfl⟩
          rw [ht] at htus hsz
          rw [hmz] at mc0
          have HT := Lib.hid ht
          have HMZ := Lib.hid hmz
          obtain ⟨v4, rfl, h4, -⟩ := Ty.cells htus
          have HTUS := Lib.hid htus
          have H4 := Lib.hid h4
          obtain ⟨a4, cap4, rfl⟩ := h4.slice_inv
          have tc0 := (belq.cell (p := ⟨tb, toff + k * 5, none⟩) htb).trans (htcell 0 _ rfl)
          have tc1 := (belq.cell (p := ⟨tb, toff + k * 5 + 1, none⟩) htb).trans (htcell 1 _ rfl)
          have tc2 := (belq.cell (p := ⟨tb, toff + k * 5 + 2, none⟩) htb).trans (htcell 2 _ rfl)
          have tc3 := (belq.cell (p := ⟨tb, toff + k * 5 + 3, none⟩) htb).trans (htcell 3 _ rfl)
          have tc4 := (belq.cell (p := ⟨tb, toff + k * 5 + 4, none⟩) htb).trans (htcell 4 _ rfl)
          clear hmcell hmu htus h4 htcell ht hmz hmus
          obtain ⟨db, doff, dcap, dus, hv, hdb, hdc, hdcell, hdus⟩ := HD.out.elem Data.d_len rfl m g1 (by omega)
          injection hv with ha _ hcap4
          subst ha hcap4
          obtain ⟨dv2, rfl, _, _, _⟩ := Data.cells hdus
          have dc1 := (belq.cell (p := ⟨db, doff + m * 3 + 1, none⟩) hdb).trans (hdcell 1 _ rfl)
          have hpar : parOf s m = (s.datas[m]).params := by simp [parOf, g1]
          rw [← hpar] at dc1
          obtain ⟨PR, hPR⟩ : ∃ P, parOf s m = P := ⟨_, rfl⟩
          rw [hPR] at dc1
          have HPR := Lib.hid hPR
          clear hdcell hdus hpar hPR
          go_upto_region 15 with fail
          obtain ⟨W0, hW0⟩ : ∃ W0, wr.alloc (.cells #[.int .u8 t.kind, .int .i64 t.n, .int .i64 t.v, .int .u8 t.c, .slice a4 t.l.length cap4] 93) = W0 := ⟨_, rfl⟩
          rw [hW0]
          have bW : Below wr.heap.size wr W0 := by rw [← hW0]; exact (Below.refl _ _).alloc (Nat.le_refl _) _
          have zW : wr.heap.size < W0.heap.size := by rw [← hW0]; simp
          have kW : Blk W0 wr.heap.size #[.int .u8 t.kind, .int .i64 t.n, .int .i64 t.v, .int .u8 t.c, .slice a4 t.l.length cap4] 93 := by rw [← hW0]; exact Blk.new _ _ _ _ rfl
          have xW : wo.heap.size < wr.heap.size := by omega
          have cbW := (cbC.below hbq ltC).below bW xW
          have boxW := (boxC.below hbq (by first | omega | (simp; omega) | (simp; done))).below bW (by first | omega | (simp; omega) | (simp; done))
          have p0 := cbW.cell 3
          have p1 := cbW.cell 1
          have p2 := (bW.cell (p := ⟨mb, moff + k, none⟩) (by first | omega | (simp; omega) | (simp; done))).trans mc0
          have p3 := kW.cell 0
          have p4 := kW.cell 1
          have p5 := kW.cell 2
          have p6 := kW.cell 3
          have p7 := kW.cell 4
          have p8 := boxW.cell 0
          have p9 := boxW.cell 1
          have p10 := (bW.cell (p := ⟨db, doff + m * 3 + 1, none⟩) (by first | omega | (simp; omega) | (simp; done))).trans dc1
          simp only [List.getElem?_toArray, List.getElem?_cons_zero, List.getElem?_cons_succ] at p0 p1 p3 p4 p5 p6 p7 p8 p9
          clear mc0 tc0 tc1 tc2 tc3 tc4 dc1 hW0 k2
          have ki0 : (0 : Int) ≤ (k : Int) := by omega
          have ki1 : (k : Int) < (ms.length : Int) := by omega
          have mi0 : (0 : Int) ≤ (m : Int) := by omega
          have mi1 : (m : Int) < (s.datas.length : Int) := by omega
          go_cut [120] (fun s120 wx => FieldPost s120 wx wr (Sig.fieldOk s ⟨nm, m, fs, ms⟩ k))
          case first =>
           have hfk : Sig.fieldOk s ⟨nm, m, fs, ms⟩ k = (decide (1 ≤ mz ∧ mz ≤ 3) && (decide (tyMay t = 0) && t.whole s PR)) := by
            simp only [Sig.fieldOk, List.getElem?_eq_getElem hkm, List.getElem?_eq_getElem hkl, HT.out, HMZ.out, Int.toNat_natCast, HPR.out]
           have HFK := Lib.hid hfk
           clear hfk
           by_cases hm1 : mz < 1
           ·have u1 : decide (mz < 1) = true := decide_eq_true hm1
            go_quiet (fail)
            go_wp2_with fail
            go_meet
            refine FieldPost.mk true ?_ (bW.trans (by (repeat (with_reducible first | exact Below.refl _ _ | refine Below.setCell ?_ ?_ _ | refine Below.alloc ?_ ?_ _ | refine Below.drewN ?_ _ | refine Below.drew ?_)) <;> first | omega | (simp; omega) | (simp; done)))
            rw [HFK.out, decide_eq_false (by omega)]; rfl
           by_cases hm3 : 3 < mz
           ·have u1 : decide (mz < 1) = false := decide_eq_false hm1
            have u2 : decide (3 < mz) = true := decide_eq_true hm3
            go_quiet (fail)
            go_wp2_with fail
            go_meet
            refine FieldPost.mk true ?_ (bW.trans (by (repeat (with_reducible first | exact Below.refl _ _ | refine Below.setCell ?_ ?_ _ | refine Below.alloc ?_ ?_ _ | refine Below.drewN ?_ _ | refine Below.drew ?_)) <;> first | omega | (simp; omega) | (simp; done)))
            rw [HFK.out, decide_eq_false (by omega)]; rfl
           have u1 : decide (mz < 1) = false := decide_eq_false hm1
           have u2 : decide (3 < mz) = false := decide_eq_false hm3
           have hBW : Below w.heap.size w W0 := belq.trans (bW.mono (by omega))
           have HTM := Lib.hid (fun (W' : World) (hW : Below W0.heap.size W0 W') => tymay_any t _ W' hsz ((HTUS.out.keep (hBW.trans (hW.mono hBW.size))).mono (Nat.le_trans hBW.size hW.size)))
           by_cases hE : tyMay t = 0
           ·-- <RD
            have hok : t.ok = true := by
             unfold tyMay at hE
             split at hE
             ·omega
             ·split at hE
              ·assumption
              ·omega
            have HWH := Lib.hid (fun (W' : World) (hW : Below W0.heap.size W0 W') => whole_any t.size s [.slice (some ⟨db, doff, none⟩) s.datas.length cd, .slice (some ⟨b, off, none⟩) s.cons.length cc] _ t PR W' (Nat.le_refl _) hsz hd hok
             (Rds.cons ((HD.out.keep (hBW.trans (hW.mono hBW.size))).mono (Nat.le_trans hBW.size hW.size)) (Rds.cons ((HC.out.keep (hBW.trans (hW.mono hBW.size))).mono (Nat.le_trans hBW.size hW.size)) Rds.nil))
             ((HTUS.out.keep (hBW.trans (hW.mono hBW.size))).mono (Nat.le_trans hBW.size hW.size)))
            rw [hE] at HTM
            have HE0 := Lib.hid hE
            obtain ⟨Bw, hBw⟩ : ∃ B, t.whole s PR = B := ⟨_, rfl⟩
            rw [hBw] at HWH
            have HBw := Lib.hid hBw
            clear hE hBw
            refine wp_region_segs [16, 12] (by kernel_rfl) (by kernel_rfl) ?_
            rw [wpSegs]
            simp only [List.take_succ_cons, List.take_zero, List.drop_succ_cons, List.drop_zero]
            repeat (go_big_quiet_step (fail))
            refine wpQuiet_nil ?_
            rintro _ ⟨nq, rfl⟩
            go_wp2_with (go_at_call 31; refine (HTM.out _ (Below.drewN (Below.refl _ W0) _)).mono ?_; rintro e w1' ⟨rfl, hb1⟩)
            have hB1 : Below W0.heap.size W0 w1' := (Below.drewN (Below.refl _ W0) _).trans hb1
            have q0 := (hB1.cell (p := ⟨wo.heap.size, 3, none⟩) (by first | omega | (simp; omega) | (simp; done))).trans p0
            have q1 := (hB1.cell (p := ⟨wo.heap.size, 1, none⟩) (by first | omega | (simp; omega) | (simp; done))).trans p1
            have q2 := (hB1.cell (p := ⟨mb, moff + k, none⟩) (by first | omega | (simp; omega) | (simp; done))).trans p2
            have q3 := (hB1.cell (p := ⟨wr.heap.size, 0, none⟩) (by first | omega | (simp; omega) | (simp; done))).trans p3
            have q4 := (hB1.cell (p := ⟨wr.heap.size, 1, none⟩) (by first | omega | (simp; omega) | (simp; done))).trans p4
            have q5 := (hB1.cell (p := ⟨wr.heap.size, 2, none⟩) (by first | omega | (simp; omega) | (simp; done))).trans p5
            have q6 := (hB1.cell (p := ⟨wr.heap.size, 3, none⟩) (by first | omega | (simp; omega) | (simp; done))).trans p6
            have q7 := (hB1.cell (p := ⟨wr.heap.size, 4, none⟩) (by first | omega | (simp; omega) | (simp; done))).trans p7
            have q8 := (hB1.cell (p := ⟨w.heap.size, 0, none⟩) (by first | omega | (simp; omega) | (simp; done))).trans p8
            have q9 := (hB1.cell (p := ⟨w.heap.size, 1, none⟩) (by first | omega | (simp; omega) | (simp; done))).trans p9
            have q10 := (hB1.cell (p := ⟨db, doff + m * 3 + 1, none⟩) (by first | omega | (simp; omega) | (simp; done))).trans p10
            show wpSegs _ _ _ _ _ _ _
            rw [wpSegs]
            simp only [List.take_succ_cons, List.take_zero, List.drop_succ_cons, List.drop_zero]
            repeat (go_big_quiet_step (fail))
            refine wpQuiet_nil ?_
            rintro _ ⟨nq, rfl⟩
            go_wp2_with (go_at_call 32; refine (HWH.out _ (Below.drewN hB1 _)).mono ?_; rintro e w2' ⟨rfl, hb2⟩)
            have hB2 : Below W0.heap.size W0 w2' := (Below.drewN hB1 _).trans (hb2.mono hB1.size)
            show wpSegs _ _ _ _ _ _ _
            rw [wpSegs]
            repeat (go_big_quiet_step (fail))
            refine wpQuiet_nil ?_
            rintro _ ⟨nq, rfl⟩
            go_wp2_with fail
            go_meet
            exact FieldPost.mk _ (by rw [HFK.out, HE0.out, HBw.out, decide_eq_true (by omega : 1 ≤ mz ∧ mz ≤ 3)]; simp) (bW.trans (Below.drewN (hB2.mono (Nat.le_of_lt zW)) _))
           ·have h23 : tyMay t = 2 ∨ tyMay t = 3 := by
             unfold tyMay at hE ⊢
             split
             ·exact .inr rfl
             ·rename_i h3
              rw [if_neg h3] at hE
              split
              ·rename_i h4
               rw [if_pos h4] at hE
               exact absurd rfl hE
              ·exact .inl rfl
            clear hE
            rcases h23 with h23 | h23
            all_goals
             rw [h23] at HTM
             have HE0 := Lib.hid h23
             clear h23
             refine wp_region_segs [16, 12] (by kernel_rfl) (by kernel_rfl) ?_
             rw [wpSegs]
             simp only [List.take_succ_cons, List.take_zero, List.drop_succ_cons, List.drop_zero]
             repeat (go_big_quiet_step (fail))
             refine wpQuiet_nil ?_
             rintro _ ⟨nq, rfl⟩
             go_wp2_with (go_at_call 31; refine (HTM.out _ (Below.drewN (Below.refl _ W0) _)).mono ?_; rintro e w1' ⟨rfl, hb1⟩)
             have hB1 : Below W0.heap.size W0 w1' := (Below.drewN (Below.refl _ W0) _).trans hb1
             show wpSegs _ _ _ _ _ _ _
             rw [wpSegs]
             simp only [List.take_succ_cons, List.take_zero, List.drop_succ_cons, List.drop_zero]
             repeat (go_big_quiet_step (fail))
             refine wpQuiet_nil ?_
             rintro _ ⟨nq, rfl⟩
             go_wp2
             show wpSegs _ _ _ _ _ _ _
             rw [wpSegs]
             repeat (go_big_quiet_step (fail))
             refine wpQuiet_nil ?_
             rintro _ ⟨nq, rfl⟩
             go_wp2_with fail
             go_meet
             exact FieldPost.mk true (by rw [HFK.out, HE0.out]; simp) (bW.trans (Below.drewN (Below.drewN (hB1.mono (Nat.le_of_lt zW)) _) _))
          case rest =>
           obtain ⟨bad, hs, hbad, hbw⟩ := hcut
           subst hs
           have HBAD := Lib.hid hbad
           clear hbad
           cases bad
           ·go_wp2_with fail
            go_roundw
            case rel =>
             refine ⟨k + 1, hkl, by go_num, fun j hj => ?_, hbq.trans (hbw.mono szq)⟩
             rcases Nat.lt_or_ge j k with h | h
             ·exact HK.out j h
             ·obtain rfl : j = k := by omega
              simpa using HBAD.out.symm
            case measure => simp [intOf]; omega
           ·go_wp2_with fail
            go_ret
            refine ⟨ret_i (Sig.mayE_no (Sig.may_con s i hlt ?_)).symm, (belC.trans (hbq.mono belC.size)).trans (hbw.mono (by first | omega | (simp; omega) | (simp; done)))⟩
            simp only [Sig.conOk, HCI2.out]
            have : (List.range fs.length).all (Sig.fieldOk s ⟨nm, m, fs, ms⟩) = false := by
             rw [List.all_eq_false]; exact ⟨k, List.mem_range.2 hkl, by simpa using HBAD.out.symm⟩
            rw [this]; simp
         ·go_wp2_with fail
          go_roundw
          case rel =>
           refine ⟨i + 1, hlt, by go_num, ?_, belC.trans (hbq.mono belC.size), boxC.below hbq (by first | omega | (simp; omega) | (simp; done)), varC.below hbq (by first | omega | (simp; omega) | (simp; done)), ⟨D2, ownsMap_of MAPC.out (hbq.block _ (by first | omega | (simp; omega) | (simp; done))), ?_⟩, ofC.below hbq, (by first | omega | (simp; omega) | (simp; done))⟩
           ·intro j hj
            rcases Nat.lt_or_ge j i with h | h
            ·exact HE.out j h
            ·obtain rfl : j = i := by omega
             simp only [Sig.conOk, HCI2.out, Sig.cname, HN9.out, Sig.conHead, Bool.and_eq_true, decide_eq_true_eq]
             exact ⟨⟨by omega, by omega, g2, G3.out⟩, by omega, List.all_eq_true.2 fun q hq => HK.out q (by have := List.mem_range.1 hq; omega)⟩
           ·have := HN2.out
            simp only [Sig.cseen, HCI2.out, Sig.cname]
            exact this
          case measure => simp [intOf]; omega
     ·have hm2 := HNO.out (fun h => hrest ⟨by omega, h.2.2.1, h.2.2.2⟩)
      have HM2 := Lib.hid hm2
      clear hm2
      by_cases g1 : m < s.datas.length
      ·have t1 : decide (s.datas.length ≤ m) = false := decide_eq_false (by omega)
       by_cases g2 : fs.length ≤ 8
       ·have t2 : decide ((8 : Int) < (fs.length : Int)) = false := decide_eq_false (by omega)
        have t3 : ((ms.length : Int) != (fs.length : Int)) = true := by simp; omega
        clear hrest
        go_wp2
        go_ret
        exact ⟨ret_i HM2.out.symm, by (repeat (with_reducible first | exact inv.bel | refine Below.setCell ?_ ?_ _ | refine Below.alloc ?_ ?_ _ | refine Below.drewN ?_ _ | refine Below.drew ?_)) <;> first | omega | (simp; omega) | (simp; done)⟩
       ·have t2 : decide ((8 : Int) < (fs.length : Int)) = true := decide_eq_true (by omega)
        clear hrest
        go_wp2
        go_ret
        exact ⟨ret_i HM2.out.symm, by (repeat (with_reducible first | exact inv.bel | refine Below.setCell ?_ ?_ _ | refine Below.alloc ?_ ?_ _ | refine Below.drewN ?_ _ | refine Below.drew ?_)) <;> first | omega | (simp; omega) | (simp; done)⟩
      ·have t1 : decide (s.datas.length ≤ m) = true := decide_eq_true (by omega)
       clear hrest
       go_wp2
       go_ret
       exact ⟨ret_i HM2.out.symm, by (repeat (with_reducible first | exact inv.bel | refine Below.setCell ?_ ?_ _ | refine Below.alloc ?_ ?_ _ | refine Below.drewN ?_ _ | refine Below.drew ?_)) <;> first | omega | (simp; omega) | (simp; done)⟩
    ·have hm2 := HNO.out (fun h => hdt h.1)
     have HM2 := Lib.hid hm2
     clear hm2
     have t1 : decide (dt < 0) = true := decide_eq_true (by omega)
     go_wp2
     go_ret
     exact ⟨ret_i HM2.out.symm, by (repeat (with_reducible first | exact inv.bel | refine Below.setCell ?_ ?_ _ | refine Below.alloc ?_ ?_ _ | refine Below.drewN ?_ _ | refine Below.drew ?_)) <;> first | omega | (simp; omega) | (simp; done)⟩
   ·obtain rfl : i = s.cons.length := by omega
    clear hi hlt
    have x0 : wo.cell? ⟨w.heap.size, 0, none⟩ = some (.slice ad s.datas.length cd) := inv.box.cell 0
    go_wp2_with fail
    go_loopw [126] (fun u wq => ∃ j : Nat, j ≤ s.datas.length ∧ u = .int .i64 j ∧ Hid (∀ q, q < j → s.dataOk q = true) ∧ DInv s w wq (.slice ad s.datas.length cd) (.slice ac s.cons.length cc) (s.cons.length + j) s.datas.length (s.dseen j) (fun q => s.ofs q s.cons.length)) (fun u _ => s.datas.length - (intOf u).toNat)
    case atStart => exact ⟨0, Nat.zero_le _, rfl, fun j hj => absurd hj (Nat.not_lt_zero _), inv⟩
    case round =>
     obtain ⟨j, hj, rfl, HJ, invj⟩ := hrel
     by_cases hjl : j < s.datas.length
     ·obtain ⟨db, doff, dcap, dus, hv, hdb, hdc, hdcell, hdus⟩ := HD.out.elem Data.d_len rfl j hjl (by omega)
      injection hv with ha _ hcap4
      subst ha hcap4
      obtain ⟨d, hd'⟩ : ∃ d, s.datas[j] = d := ⟨_, rfl⟩
      rw [hd'] at hdus
      have hdi : s.datas[j]? = some d := by rw [List.getElem?_eq_getElem hjl, hd']
      have HDI := Lib.hid hdi
      obtain ⟨sn, sc⟩ := hsm.data j hjl
      rw [hd'] at sn sc
      obtain ⟨nm, pr, dcs⟩ := d
      simp only at sn sc
      obtain ⟨cv, rfl, wn, wp, hcv⟩ := Data.cells hdus
      have HCV := Lib.hid hcv
      obtain ⟨ca, ccap, rfl⟩ := hcv.slice_inv
      simp only at hdcell
      have belj := invj.bel
      have c0 := (belj.cell (p := ⟨db, doff + j * 3, none⟩) hdb).trans (hdcell 0 _ rfl)
      have c1 := (belj.cell (p := ⟨db, doff + j * 3 + 1, none⟩) hdb).trans (hdcell 1 _ rfl)
      have c2 := (belj.cell (p := ⟨db, doff + j * 3 + 2, none⟩) hdb).trans (hdcell 2 _ rfl)
      obtain ⟨DD, hown, hND⟩ := invj.own
      have HO := Lib.hid hown
      have HND := Lib.hid hND
      have xlt := invj.lt
      have hsl := s.dseen_len j
      obtain ⟨vals, v1, v2, v3, v4⟩ := invj.of_
      have hjv : j < vals.size := by omega
      obtain ⟨V, hV⟩ : ∃ V, vals[j] = V := ⟨_, rfl⟩
      have hrow : wr.ownsRow (w.heap.size + 4) 3 1 vals[j] (s.ofs j s.cons.length).length (i64s (s.ofs j s.cons.length)) := v3 j hjv
      rw [hV] at hrow
      obtain ⟨va, vc, rfl⟩ := own_slice hrow
      have HROW := Lib.hid hrow
      have hol := s.ofs_len j s.cons.length
      have y2 : wr.cell? ⟨w.heap.size + 1, j, none⟩ = some (.slice va (s.ofs j s.cons.length).length vc) := by rw [v2.cell j, Array.getElem?_eq_getElem hjv, hV]
      have l2 := v2.lt
      have hin := enters40
      unfold Enters at hin
      clear hdcell hdus hcv hd' hdi hown hND v1 v3 v4 hV hrow
      go_upto_region 22 with fail
      obtain ⟨W0, hW0⟩ : ∃ W0, wr.alloc (.cells #[.string nm, .int .i64 pr, .slice ca dcs.length ccap] 97) = W0 := ⟨_, rfl⟩
      rw [hW0]
      have bW : Below wr.heap.size wr W0 := by rw [← hW0]; exact (Below.refl _ _).alloc (Nat.le_refl _) _
      have zW : wr.heap.size < W0.heap.size := by rw [← hW0]; simp
      have kW : Blk W0 wr.heap.size #[.string nm, .int .i64 pr, .slice ca dcs.length ccap] 97 := by rw [← hW0]; exact Blk.new _ _ _ _ rfl
      have p0 := kW.cell 0
      have p1 := kW.cell 1
      have p2 := kW.cell 2
      have p3 := (bW.cell (p := ⟨w.heap.size + 1, j, none⟩) (by first | omega | (simp; omega) | (simp; done))).trans y2
      have p4 : W0.cell? ⟨w.heap.size + 1 + 1 + 1, 0, none⟩ = some (.map (some (w.heap.size + 1 + 1))) := (invj.var.below bW (by first | omega | (simp; omega) | (simp; done))).cell 0
      simp only [List.getElem?_toArray, List.getElem?_cons_zero, List.getElem?_cons_succ] at p0 p1 p2
      have hbW : Below w.heap.size w W0 := belj.trans (bW.mono (by first | omega | (simp; omega) | (simp; done)))
      have invW : ∀ W, Below W0.heap.size W0 W → DInv s w W (.slice (some ⟨db, doff, none⟩) s.datas.length cd) (.slice ac s.cons.length cc) (s.cons.length + j) s.datas.length (s.dseen j) (fun q => s.ofs q s.cons.length) := fun W hW =>
       ⟨hbW.trans (hW.mono (by first | omega | (simp; omega) | (simp; done))), (invj.box.below bW (by first | omega | (simp; omega) | (simp; done))).below hW (by first | omega | (simp; omega) | (simp; done)), (invj.var.below bW (by first | omega | (simp; omega) | (simp; done))).below hW (by first | omega | (simp; omega) | (simp; done)), ⟨DD, ownsMap_of HO.out ((hW.block _ (by first | omega | (simp; omega) | (simp; done))).trans (bW.block _ (by first | omega | (simp; omega) | (simp; done)))), HND.out⟩, (invj.of_.below bW).below hW, Nat.lt_of_lt_of_le (Nat.lt_trans xlt zW) hW.size⟩
      have INVW := Lib.hid invW
      clear hW0 c0 c1 c2 y2 invW
      have ki0 : (0 : Int) ≤ (j : Int) := by omega
      have ki1 : (j : Int) < (s.datas.length : Int) := by omega
      go_cut [163] (fun s163 wx => ∃ bad : Bool, s163 = .bool bad ∧ Hid (bad = !s.dataOk j) ∧ Below w.heap.size w wx ∧ (bad = false → DInv s w wx (.slice (some ⟨db, doff, none⟩) s.datas.length cd) (.slice ac s.cons.length cc) (s.cons.length + (j + 1)) s.datas.length (s.dseen (j + 1)) (fun q => s.ofs q s.cons.length)))
      case first =>
       have hdk : s.dataOk j = (decide (0 ≤ pr ∧ pr ≤ 4) && (decide (s.ofs j s.cons.length ≠ []) && (decide (s.ofs j s.cons.length = dcs) && decide ((s.dseen j).count (100 :: nm.data.toList) = 0)))) := by
        unfold Sig.dataOk
        rw [HDI.out]
        rfl
       have hnn : ¬(9223372036854775807 < 1 + nm.size) := by omega
       obtain ⟨F, hF⟩ : ∃ F, s.ofs j s.cons.length = F := ⟨_, rfl⟩
       rw [hF] at p3 hdk HROW hol
       have HF := Lib.hid hF
       have HDK := Lib.hid hdk
       clear hdk hF
       by_cases hp0 : pr < 0
       ·have u1 : decide (pr < 0) = true := decide_eq_true hp0
        go_quiet (fail)
        go_wp2_with fail
        go_meet
        exact ⟨true, rfl, by show _ = _; rw [HDK.out, decide_eq_false (by omega)]; rfl, Below.drewN hbW _, fun h => by cases h⟩
       have u1 : decide (pr < 0) = false := decide_eq_false hp0
       by_cases hp4 : 4 < pr
       ·have u2 : decide (4 < pr) = true := decide_eq_true hp4
        go_quiet (fail)
        go_wp2_with fail
        go_meet
        exact ⟨true, rfl, by show _ = _; rw [HDK.out, decide_eq_false (by omega)]; rfl, Below.drewN hbW _, fun h => by cases h⟩
       have u2 : decide (4 < pr) = false := decide_eq_false hp4
       by_cases hF0 : F = []
       ·have hl0 : ((F.length : Int) == 0) = true := by simp [hF0]
        have HF0 := Lib.hid hF0
        clear hF0
        go_quiet (fail)
        go_wp2_with fail
        go_meet
        exact ⟨true, rfl, by show _ = _; rw [HDK.out, HF0.out]; simp, Below.drewN hbW _, fun h => by cases h⟩
       have hl0 : ((F.length : Int) == 0) = false := by simpa using hF0
       have hFl : 0 < F.length := List.length_pos_iff.2 hF0
       have heqC : ∀ n, Calls Tryz.prog 33 #[.slice va F.length vc, .slice ca dcs.length ccap] (W0.drewN n) fun e w' => e = .returned (.bool (decide (F = dcs))) ∧ ∃ n', w' = (W0.drewN n).drewN n' := fun n =>
        equalZ _ _ F dcs (W0.drewN n) ((Row.own (own_below HROW.out bW (Nat.le_refl _)) (Nat.le_refl _)).below (Below.drewN (Below.refl _ _) n)) (((rd_ints HCV.out).below hbW).mono (Nat.le_trans hbW.size (Nat.le_refl _))) (by omega) sc
       have HEQ := Lib.hid heqC
       clear heqC hF0
       by_cases hFd : F = dcs
       ·have u3 : decide (F = dcs) = true := decide_eq_true hFd
        have HFD := Lib.hid hFd
        have HNE := Lib.hid hFl
        clear hFd
        have e99 := dbytes nm
        obtain ⟨N, hN⟩ : ∃ N, (s.dseen j).count (100 :: nm.data.toList) = N := ⟨_, rfl⟩
        rw [hN] at HDK
        have HN9 := Lib.hid hN
        have htw : ∀ W, Below W0.heap.size W0 W → Calls Tryz.prog 30 #[.string ({ data := #[100] } ++ nm), .pointer (some ⟨w.heap.size + 1 + 1 + 1, 0, none⟩)] W fun e w' => e = .returned (.bool (decide (0 < N))) ∧ (∃ D', w'.ownsMap Tryz.prog 9 mapI (w.heap.size + 1 + 1) (s.cons.length + j + 1) D' ∧ Names D' ((100 :: nm.data.toList) :: s.dseen j)) ∧ W.grownBy w' (some (w.heap.size + 1 + 1)) := fun W hW => by
         have h := twice_any ({ data := #[100] } ++ nm) (w.heap.size + 1 + 1 + 1) (w.heap.size + 1 + 1) (s.cons.length + j) DD (s.dseen j) W (by rw [dsize]; unfold maxLen; omega) (by omega) (by omega) (Nat.lt_of_lt_of_le (by first | omega | (simp; omega) | (simp; done)) hW.size) (by omega) ((hW.cell (p := ⟨w.heap.size + 1 + 1 + 1, 0, none⟩) (by first | omega | (simp; omega) | (simp; done))).trans p4)
          (ownsMap_of HO.out ((hW.block _ (by first | omega | (simp; omega) | (simp; done))).trans (bW.block _ (by first | omega | (simp; omega) | (simp; done))))) HND.out
         rw [e99, hN] at h
         exact h
        have HTW := Lib.hid htw
        clear e99 hN htw
        refine wp_region_segs [31] (by kernel_rfl) (by kernel_rfl) ?_
        rw [wpSegs]
        simp only [List.take_succ_cons, List.take_zero, List.drop_succ_cons, List.drop_zero]
        repeat (go_big_quiet_step ((go_at_call 33; refine (HEQ.out _).mono ?_; rintro e w' ⟨rfl, n', rfl⟩; exact ⟨rfl, _, (World.drewN_drewN _ _ _).trans (by rw [Nat.add_assoc])⟩)))
        refine wpQuiet_nil ?_
        rintro _ ⟨nq, rfl⟩
        go_wp2_with (go_at_call 30; refine (HTW.out _ (Below.drewN (Below.refl _ _) _)).mono ?_; rintro e w2 ⟨rfl, ⟨D2, hown2, hN2⟩, hg2⟩)
        have HO2 := Lib.hid hown2
        have HN2 := Lib.hid hN2
        clear hown2 hN2
        have bW2 : Below w.heap.size w w2 := (Below.drewN hbW _).grown hg2 (by show w.heap.size ≤ W0.heap.size; omega) (by rintro k ⟨⟩; omega)
        have hk2 : ∀ k, k < W0.heap.size → k ≠ w.heap.size + 1 + 1 → w2.heap[k]? = W0.heap[k]? := fun k hk hne => hg2.block k hk (by simpa using hne)
        have inv2 : DInv s w w2 (.slice (some ⟨db, doff, none⟩) s.datas.length cd) (.slice ac s.cons.length cc) (s.cons.length + (j + 1)) s.datas.length ((100 :: nm.data.toList) :: s.dseen j) (fun q => s.ofs q s.cons.length) :=
         ⟨bW2, (invj.box.below bW (by first | omega | (simp; omega) | (simp; done))).of (hk2 _ (by first | omega | (simp; omega) | (simp; done)) (by omega)), (invj.var.below bW (by first | omega | (simp; omega) | (simp; done))).of (hk2 _ (by first | omega | (simp; omega) | (simp; done)) (by omega)), ⟨D2, HO2.out, HN2.out⟩, (invj.of_.below bW).keep (fun k hk hc => hk2 k hk (by omega)), Nat.lt_of_lt_of_le (Nat.lt_trans xlt zW) hg2.size⟩
        have INV2 := Lib.hid inv2
        clear inv2 hk2
        show wpSegs _ _ _ _ _ _ _
        rw [wpSegs]
        by_cases hN0 : 0 < N
        ·rw [decide_eq_true hN0]
         repeat (go_big_quiet_step (fail))
         refine wpQuiet_nil ?_
         rintro _ ⟨nq2, rfl⟩
         go_wp2_with fail
         go_meet
         refine ⟨true, rfl, ?_, Below.drewN bW2 _, fun h => by cases h⟩
         show _ = _
         rw [HDK.out, decide_eq_false (by omega : ¬ N = 0)]
         simp
        ·rw [decide_eq_false hN0]
         repeat (go_big_quiet_step (fail))
         refine wpQuiet_nil ?_
         rintro _ ⟨nq2, rfl⟩
         go_wp2_with fail
         go_meet
         refine ⟨false, rfl, ?_, Below.drewN bW2 _, fun _ => ?_⟩
         ·show _ = _
          rw [HDK.out, decide_eq_true (by omega : N = 0), decide_eq_true (by omega : 0 ≤ pr ∧ pr ≤ 4), decide_eq_true HFD.out, decide_eq_true (List.length_pos_iff.1 HNE.out)]
          rfl
         ·have e : s.dseen (j + 1) = (100 :: nm.data.toList) :: s.dseen j := by simp only [Sig.dseen, HDI.out, Sig.dname]
          rw [e]
          exact INV2.out.drewN _
       ·have u3 : decide (F = dcs) = false := decide_eq_false hFd
        have HFD := Lib.hid hFd
        clear hFd
        go_quiet ((go_at_call 33; refine (HEQ.out _).mono ?_; rintro e w' ⟨rfl, n', rfl⟩; exact ⟨rfl, _, World.drewN_drewN _ _ _⟩))
        go_wp2_with fail
        go_meet
        exact ⟨true, rfl, by show _ = _; rw [HDK.out, decide_eq_false HFD.out]; simp, Below.drewN hbW _, fun h => by cases h⟩
      case rest =>
       obtain ⟨bad, hs, HB, hbw, hinv⟩ := hcut
       subst hs
       have HINV := Lib.hid hinv
       clear hinv
       cases bad
       ·go_wp2_with fail
        go_roundw
        case rel =>
         refine ⟨j + 1, hjl, by go_num, fun q hq => ?_, HINV.out rfl⟩
         rcases Nat.lt_or_ge q j with h | h
         ·exact HJ.out q h
         ·obtain rfl : q = j := by omega
          simpa using HB.out.symm
        case measure => simp [intOf]; omega
       ·go_wp2_with fail
        go_ret
        exact ⟨ret_i (Sig.mayE_no (Sig.may_data s j hjl (by simpa using HB.out.symm))).symm, hbw⟩
     ·go_wp2
      go_ret
      exact ⟨ret_i (Sig.mayE_yes (Sig.may_yes s ⟨h40, h100⟩ HE.out fun q hq => HJ.out q (by omega))).symm, invj.bel⟩
 ·have hm := Sig.mayE_no (Sig.may_no s hbig)
  rw [hm]
  clear hm
  by_cases h40 : s.datas.length ≤ 40
  ·have t1 : decide (100 < (s.cons.length : Int)) = true := decide_eq_true (by omega)
   go_enter Tryz.func13, Tryz.ntmps13
   go_wp2
   go_ret
   exact ⟨rfl, by (repeat (with_reducible first | exact Below.refl _ _ | refine Below.setCell ?_ ?_ _ | refine Below.alloc ?_ ?_ _ | refine Below.drewN ?_ _ | refine Below.drew ?_)) <;> first | omega | (simp; omega) | (simp; done)⟩
  ·have t1 : decide (40 < (s.datas.length : Int)) = true := decide_eq_true (by omega)
   clear hbig
   go_enter Tryz.func13, Tryz.ntmps13
   go_wp2
   go_ret
   exact ⟨rfl, by (repeat (with_reducible first | exact Below.refl _ _ | refine Below.setCell ?_ ?_ _ | refine Below.alloc ?_ ?_ _ | refine Below.drewN ?_ _ | refine Below.drew ?_)) <;> first | omega | (simp; omega) | (simp; done)⟩
end Go.Proofs.YtdhodaefgliphaaGreatDoor
