/- Plain lemmas: what the document's May of a signature asks is what Sig.may asks. -/
import Derived.Test.YtdhodaefgliphaaGreatDoorRefI
import Derived.Deep.CutBlock
import Derived.Deep.DeepCutAuto
set_option linter.unusedVariables false
set_option linter.unusedSimpArgs false
namespace Go.Proofs.YtdhodaefgliphaaGreatDoor
open Go.RowKit
theorem bytes_name {a b : ByteArray} (h : a.data.toList = b.data.toList) : a = b := by cases a; cases b; simp_all
theorem FirstAt.at {names : List ByteArray} {i : Nat} (hi : i < names.length) {z : Int} (h : FirstAt names names[i] z) : z = (i : Int) ↔ ∀ j (hj : j < i), names[j]'(by omega) ≠ names[i] := by
 rcases h with ⟨k, hk, rfl, h1, h2⟩ | ⟨rfl, h2⟩
 ·constructor
  ·intro e
   have : k = i := by omega
   subst this
   exact h2
  ·intro h3
   have : ¬ k < i := fun hlt => h3 k hlt h1
   have : ¬ i < k := fun hlt => h2 i hlt rfl
   omega
 ·exact absurd rfl (h2 i hi)
namespace Sig
theorem cseen_count (s : Sig) (c : Con) : ∀ i, i ≤ s.cons.length → ((cseen s i).count (cname c) = 0 ↔ ∀ j (hj : j < i) (hl : j < s.cons.length), s.cons[j].name ≠ c.name)
 | 0, _ => by simp [cseen]
 | i + 1, h => by
   have hi : i < s.cons.length := by omega
   have ih := cseen_count s c i (by omega)
   have e : s.cons[i]? = some s.cons[i] := List.getElem?_eq_getElem hi
   simp only [cseen, e, List.count_cons]
   constructor
   ·intro h0 j hj hl
    have h1 : (cseen s i).count (cname c) = 0 := by omega
    rcases Nat.lt_succ_iff_lt_or_eq.1 hj with h2 | rfl
    ·exact ih.1 h1 j h2 hl
    ·intro e2
     have : (cname s.cons[j] == cname c) = true := by simp [cname, e2]
     rw [this] at h0; simp at h0
   ·intro h0
    have h1 := ih.2 fun j hj hl => h0 j (by omega) hl
    have : (cname s.cons[i] == cname c) = false := by
     simp only [cname, beq_eq_false_iff_ne, ne_eq, List.cons.injEq, true_and]
     intro e2
     exact h0 i (by omega) hi (bytes_name e2)
    rw [h1, this]; rfl
theorem cseen_d (s : Sig) (d : Data) : ∀ i, (cseen s i).count (dname d) = 0
 | 0 => rfl
 | i + 1 => by
   have ih := cseen_d s d i
   unfold cseen
   split
   ·rw [List.count_cons, ih]
    have : ∀ c : Con, (cname c == dname d) = false := fun c => by simp [cname, dname]
    rw [this]; rfl
   ·exact ih
theorem dseen_count (s : Sig) (d : Data) : ∀ i, i ≤ s.datas.length → ((dseen s i).count (dname d) = 0 ↔ ∀ j (hj : j < i) (hl : j < s.datas.length), s.datas[j].name ≠ d.name)
 | 0, _ => by simp [dseen, cseen_d]
 | i + 1, h => by
   have hi : i < s.datas.length := by omega
   have ih := dseen_count s d i (by omega)
   have e : s.datas[i]? = some s.datas[i] := List.getElem?_eq_getElem hi
   simp only [dseen, e, List.count_cons]
   constructor
   ·intro h0 j hj hl
    have h1 : (dseen s i).count (dname d) = 0 := by omega
    rcases Nat.lt_succ_iff_lt_or_eq.1 hj with h2 | rfl
    ·exact ih.1 h1 j h2 hl
    ·intro e2
     have : (dname s.datas[j] == dname d) = true := by simp [dname, e2]
     rw [this] at h0; simp at h0
   ·intro h0
    have h1 := ih.2 fun j hj hl => h0 j (by omega) hl
    have : (dname s.datas[i] == dname d) = false := by
     simp only [dname, beq_eq_false_iff_ne, ne_eq, List.cons.injEq, true_and]
     intro e2
     exact h0 i (by omega) hi (bytes_name e2)
    rw [h1, this]; rfl
theorem con_first (s : Sig) (i : Nat) (hi : i < s.cons.length) {z : Int} (h : FirstAt (s.cons.map Con.name) s.cons[i].name z) : ((cseen s i).count (cname s.cons[i]) = 0) = (z = (i : Int)) := by
 have hm : i < (s.cons.map Con.name).length := by simpa using hi
 have h' : FirstAt (s.cons.map Con.name) ((s.cons.map Con.name)[i]'hm) z := by simpa using h
 apply propext
 rw [cseen_count s _ i (by omega), h'.at hm]
 constructor
 ·intro h0 j hj; simpa using h0 j hj (by omega)
 ·intro h0 j hj hl; simpa using h0 j hj
theorem data_first (s : Sig) (i : Nat) (hi : i < s.datas.length) {z : Int} (h : FirstAt (s.datas.map Data.name) s.datas[i].name z) : ((dseen s i).count (dname s.datas[i]) = 0) = (z = (i : Int)) := by
 have hm : i < (s.datas.map Data.name).length := by simpa using hi
 have h' : FirstAt (s.datas.map Data.name) ((s.datas.map Data.name)[i]'hm) z := by simpa using h
 apply propext
 rw [dseen_count s _ i (by omega), h'.at hm]
 constructor
 ·intro h0 j hj; simpa using h0 j hj (by omega)
 ·intro h0 j hj hl; simpa using h0 j hj
theorem ofs_step (s : Sig) (j i : Nat) (hi : i < s.cons.length) : ofs s j (i + 1) = if s.cons[i].data = (j : Int) then ofs s j i ++ [(i : Int)] else ofs s j i := by
 have e : s.cons[i]? = some s.cons[i] := List.getElem?_eq_getElem hi
 simp only [ofs, e]
theorem ofs_prefix (s : Sig) (j : Nat) : ∀ (d i : Nat), ∃ r, ofs s j (i + d) = ofs s j i ++ r
 | 0, i => ⟨[], by simp⟩
 | d + 1, i => by
   obtain ⟨r, hr⟩ := ofs_prefix s j d i
   rw [show i + (d + 1) = (i + d) + 1 by omega]
   by_cases hi : i + d < s.cons.length
   ·rw [ofs_step s j (i + d) hi]
    split
    ·exact ⟨r ++ [((i + d : Nat) : Int)], by rw [hr]; simp⟩
    ·exact ⟨r, hr⟩
   ·have e : s.cons[i + d]? = none := by simp; omega
    have : ofs s j (i + d + 1) = ofs s j (i + d) := by simp only [ofs, e]
    exact ⟨r, this.trans hr⟩
theorem ofs_take {l : List Int} {m : Nat} (h : m < l.length) {z : Int} (e : l[m] = z) : l.take m ++ [z] = l.take (m + 1) := by
 rw [List.take_succ_eq_append_getElem h, e]
theorem ofs_bad (s : Sig) (j i : Nat) (hi : i < s.cons.length) {l : List Int} {m : Nat} (hm : m ≤ l.length) (h : ofs s j i = l.take m) (hd : s.cons[i].data = (j : Int)) (hb : ∀ h : m < l.length, l[m] ≠ (i : Int)) : ofs s j s.cons.length ≠ l := by
 obtain ⟨r, hr⟩ := ofs_prefix s j (s.cons.length - (i + 1)) (i + 1)
 rw [show i + 1 + (s.cons.length - (i + 1)) = s.cons.length by omega, ofs_step s j i hi, if_pos hd, h] at hr
 intro e
 rw [e] at hr
 have hlen : m < l.length := by
  have := congrArg List.length hr
  simp at this; omega
 apply hb hlen
 have h2 : l[m]? = (l.take m ++ [(i : Int)] ++ r)[m]? := by rw [← hr]
 rw [List.append_assoc, List.getElem?_append_right (by simp; omega), List.getElem?_eq_getElem hlen] at h2
 have h3 : m - (l.take m).length = 0 := by simp; omega
 rw [h3] at h2
 simpa using h2
theorem ofs_end (s : Sig) (j : Nat) {l : List Int} {m : Nat} (hm : m ≤ l.length) (h : ofs s j s.cons.length = l.take m) : (ofs s j s.cons.length = l) = (m = l.length) := by
 rw [h]
 apply propext
 constructor
 ·intro e
  have := congrArg List.length e
  simp at this; omega
 ·rintro rfl; simp
end Sig
end Go.Proofs.YtdhodaefgliphaaGreatDoor
namespace Go.Proofs.YtdhodaefgliphaaGreatDoor
open Go.RowKit
structure SInv (w wr : World) (sb : Array Value) : Prop where
 bel : Below w.heap.size w wr
 sig : Blk wr w.heap.size sb 25
theorem SInv.below {w W W' : World} {sb : Array Value} (h : SInv w W sb) (hb : Below W.heap.size W W') : SInv w W' sb := ⟨h.bel.trans (hb.mono h.bel.size), h.sig.below hb h.sig.lt⟩
theorem and_no {a b c d : Prop} [Decidable a] [Decidable b] [Decidable c] [Decidable d] (h : ¬a ∨ ¬b ∨ ¬c ∨ ¬d) : (decide a && (decide b && (decide c && decide d))) = false := by
 rcases h with h | h | h | h <;> simp [h]
theorem and_yes {a b c d : Prop} [Decidable a] [Decidable b] [Decidable c] [Decidable d] (h1 : a) (h2 : b) (h3 : c) (h4 : d) : (decide a && (decide b && (decide c && decide d))) = true := by
 simp [h1, h2, h3, h4]
set_option maxRecDepth 100000 in
set_option maxHeartbeats 4000000 in
theorem rsig_any (s : Sig) (us : List Value) (w : World) (hsm : s.Small) (hus : Rds w w.heap.size us s.d) :
  Calls Tryz.prog 15 #[.agg us.toArray] w fun e w' => e = .returned (.bool s.may) ∧ Below w.heap.size w w' := by
 have HSS := Lib.hid hus
 have hd := hsm.nd
 have hcc := hsm.nc
 have SM := Lib.hid hsm
 obtain ⟨v0, v1, rfl, g0, g1⟩ := Sig.cells hus
 have G0 := Lib.hid g0
 have G1 := Lib.hid g1
 have HCON := Lib.hid (fun (nm : ByteArray) (W : World) (hW : Below w.heap.size w W) => rcon_any s _ nm W hcc ((hus.keep hW).mono hW.size))
 have HDAT := Lib.hid (fun (nm : ByteArray) (W : World) (hW : Below w.heap.size w W) => rdata_any s _ nm W hd ((hus.keep hW).mono hW.size))
 obtain ⟨ad, cd, rfl⟩ := g0.slice_inv
 obtain ⟨ac, cc, rfl⟩ := g1.slice_inv
 clear hus g0 g1 hsm
 by_cases hbig : s.datas.length ≤ 40 ∧ s.cons.length ≤ 100
 ·obtain ⟨h40, h100⟩ := hbig
  have t40 : decide ((40 : Int) < (s.datas.length : Int)) = false := decide_eq_false (by omega)
  have t100 : decide ((100 : Int) < (s.cons.length : Int)) = false := decide_eq_false (by omega)
  go_enter Tryz.func15, Tryz.ntmps15
  go_upto_block 0 with fail
  obtain ⟨sb, hsb⟩ : ∃ b : Array Value, #[.slice ad s.datas.length cd, .slice ac s.cons.length cc] = b := ⟨_, rfl⟩
  have s0 : sb[0]? = some (.slice ad s.datas.length cd) := by rw [← hsb]; rfl
  have s1 : sb[1]? = some (.slice ac s.cons.length cc) := by rw [← hsb]; rfl
  obtain ⟨W0, hW0⟩ : ∃ W, w.alloc (.cells sb 25) = W := ⟨_, rfl⟩
  have hw0 : SInv w W0 sb := by rw [← hW0]; exact ⟨(Below.refl _ _).alloc (Nat.le_refl _) _, Blk.new _ _ _ _ rfl⟩
  have HB0 := Lib.hid hw0
  rw [hsb, hW0]
  clear hsb hW0 hw0
  go_cut [] (fun wx => Hid (∀ j, j < s.cons.length → s.conOk j = true) ∧ Hid (SInv w wx sb))
  case first => as_aux_lemma =>
   go_wp2_with fail
   go_loopw [3] (fun u wr => ∃ i : Nat, i ≤ s.cons.length ∧ u = .int .i64 i ∧ Hid (∀ j, j < i → s.conOk j = true) ∧ Hid (SInv w wr sb)) (fun u _ => s.cons.length - (intOf u).toNat)
   case atStart => exact ⟨0, Nat.zero_le _, rfl, fun j hj => absurd hj (Nat.not_lt_zero _), HB0⟩
   case round =>
    obtain ⟨wo, rfl⟩ : ∃ x, x = wr := ⟨_, rfl⟩
    obtain ⟨i, hi, rfl, HE, HB⟩ := hrel
    have hbelo := HB.out.bel
    have hszo := hbelo.size
    have x0 : wo.cell? ⟨w.heap.size, 0, none⟩ = some (.slice ad s.datas.length cd) := (HB.out.sig.cell 0).trans s0
    have x1 : wo.cell? ⟨w.heap.size, 1, none⟩ = some (.slice ac s.cons.length cc) := (HB.out.sig.cell 1).trans s1
    have hsl := HB.out.sig.lt
    by_cases hlt : i < s.cons.length
    ·obtain ⟨b, off, cap', us, hv, hb, hcp, hcell, hus⟩ := G1.out.elem Con.d_len rfl i hlt (by omega)
     injection hv with ha _ hcap
     subst ha hcap
     obtain ⟨c, hc⟩ : ∃ c, s.cons[i] = c := ⟨_, rfl⟩
     rw [hc] at hus
     have HCI := Lib.hid hc
     obtain ⟨fv, mv, rfl, wn, wd, hf, hm⟩ := Con.cells hus
     have hfirst := fun (z : Int) (h : FirstAt (s.cons.map Con.name) s.cons[i].name z) => Sig.con_first s i hlt h
     obtain ⟨nm, dt, fs, ms⟩ := c
     rw [hc] at hfirst
     have HFI := Lib.hid hfirst
     simp only at hf hm wn wd hcell
     have hci : s.cons[i]? = some ⟨nm, dt, fs, ms⟩ := by rw [List.getElem?_eq_getElem hlt, hc]
     have HNO := Lib.hid (show ¬(0 ≤ dt ∧ dt < s.datas.length ∧ fs.length ≤ 8 ∧ ms.length = fs.length) → s.may = false from fun h => Sig.may_con s i hlt (by simp only [Sig.conOk, hci, Sig.conHead]; rw [decide_eq_false h]; rfl))
     have HCI2 := Lib.hid hci
     have c0 := (hbelo.cell (p := ⟨b, off + i * 4, none⟩) hb).trans (hcell 0 _ rfl)
     have c1 := (hbelo.cell (p := ⟨b, off + i * 4 + 1, none⟩) hb).trans (hcell 1 _ rfl)
     have c2 := (hbelo.cell (p := ⟨b, off + i * 4 + 2, none⟩) hb).trans (hcell 2 _ rfl)
     have c3 := (hbelo.cell (p := ⟨b, off + i * 4 + 3, none⟩) hb).trans (hcell 3 _ rfl)
     have HF := Lib.hid hf
     have HM := Lib.hid hm
     obtain ⟨fa, fc, rfl⟩ := hf.slice_inv
     obtain ⟨ma, mc, rfl⟩ := hm.slice_inv
     obtain ⟨sn, sf, sm, st⟩ := SM.out.con i hlt
     simp only [hc] at sn sf sm
     have ST := Lib.hid st
     clear st hcell hus hf hm hc hfirst hci
     by_cases hrest : 0 ≤ dt ∧ dt < s.datas.length ∧ fs.length ≤ 8 ∧ ms.length = fs.length
     ·obtain ⟨g0, g1, g2, g3⟩ := hrest
      obtain ⟨m, rfl⟩ := Int.eq_ofNat_of_zero_le g0
      have t0 : decide ((m : Int) < 0) = false := decide_eq_false (by omega)
      have t1 : decide (s.datas.length ≤ m) = false := decide_eq_false (by omega)
      have t2 : decide ((8 : Int) < (fs.length : Int)) = false := decide_eq_false (by omega)
      have t3 : ((ms.length : Int) != (fs.length : Int)) = false := by simp [g3]
      have G3 := Lib.hid g3
      have GM := Lib.hid (⟨g1, g2⟩ : (m : Int) < s.datas.length ∧ fs.length ≤ 8)
      clear g3 g0 HNO
      go_wp2_with fail
      refine (HCON.out nm _ (by (repeat (with_reducible first | exact hbelo | refine Below.setCell ?_ ?_ _ | refine Below.alloc ?_ ?_ _ | refine Below.drewN ?_ _ | refine Below.drew ?_)) <;> first | omega | (simp; omega) | (simp; done))).mono ?_
      rintro e w2 ⟨⟨z, rfl, hz⟩, hb2⟩
      have hzz := HFI.out z hz
      have HZZ := Lib.hid hzz
      obtain ⟨cbx, hcbx⟩ : ∃ b : Array Value, #[.string nm, .int .i64 m, .slice fa fs.length fc, .slice ma ms.length mc] = b := ⟨_, rfl⟩
      have d1 : cbx[1]? = some (.int .i64 m) := by rw [← hcbx]; rfl
      have d2 : cbx[2]? = some (.slice fa fs.length fc) := by rw [← hcbx]; rfl
      have d3 : cbx[3]? = some (.slice ma ms.length mc) := by rw [← hcbx]; rfl
      have hdb : Blk w2 wo.heap.size cbx 88 := by rw [← hcbx]; exact (Blk.new wo _ _ _ rfl).below hb2 (by simp)
      have hsi : SInv w w2 sb := HB.out.below (((Below.refl _ _).alloc (Nat.le_refl _) _).trans (hb2.mono (by simp)))
      have HSI := Lib.hid (⟨hsi, hdb⟩ : SInv w w2 sb ∧ Blk w2 wo.heap.size cbx 88)
      have hbel2 := hsi.bel
      clear c0 c1 c2 c3 x0 x1 hz hzz hcbx hdb hb2 hsi
      by_cases hzi : z = (i : Int)
      ·have t4 : (z != (i : Int)) = false := by simp [hzi]
       have HC0 := Lib.hid (show (s.cseen i).count (Sig.cname ⟨nm, m, fs, ms⟩) = 0 by rw [HZZ.out]; exact hzi)
       clear hzi
       go_wp2_with fail
       go_loopw [5] (fun u wr => ∃ k : Nat, k ≤ fs.length ∧ u = .int .i64 k ∧ Hid (∀ j, j < k → Sig.fieldOk s ⟨nm, m, fs, ms⟩ j = true) ∧ Hid (SInv w wr sb ∧ Blk wr wo.heap.size cbx 88)) (fun u _ => fs.length - (intOf u).toNat)
       case atStart => exact ⟨0, Nat.zero_le _, rfl, fun j hj => absurd hj (Nat.not_lt_zero _), HSI⟩
       case round =>
        obtain ⟨wq, rfl⟩ : ∃ x, x = wr := ⟨_, rfl⟩
        obtain ⟨k, hk, rfl, HK, HQ⟩ := hrel
        have y2 : wq.cell? ⟨wo.heap.size, 2, none⟩ = some (.slice fa fs.length fc) := (HQ.out.2.cell 2).trans d2
        by_cases hkl : k < fs.length
        ·have e1 : decide ((k : Int) < (fs.length : Int)) = true := decide_eq_true (by omega)
         have hkm : k < ms.length := by have := G3.out; omega
         obtain ⟨tb, toff, tcap, tus, hv, htb, htc, htcell, htus⟩ := HF.out.elem Ty.d_len rfl k hkl (by omega)
         injection hv with ha _ hcap2
         subst ha hcap2
         obtain ⟨mb, moff, mcap, mus, hv, hmb, hmc, hmcell, hmus⟩ := (show Rd w w.heap.size _ (.list 1 ms.length (ms.flatMap fun z : Int => [D.int .u8 z])) by rw [ints_flat]; exact HM.out).elem (fun _ => rfl) rfl k hkm (by omega)
         injection hv with ha _ hcap3
         subst ha hcap3
         obtain ⟨mu0, mus', rfl, hmu, -⟩ := hmus.cons_inv
         obtain ⟨rfl, wmu⟩ := hmu.int_inv
         have belq := HQ.out.1.bel
         have mc0 := (belq.cell (p := ⟨mb, moff + k * 1, none⟩) hmb).trans (hmcell 0 _ rfl)
         rw [Nat.mul_one] at mc0
         have hsz : (fs[k]).size ≤ 1048576 := by
          have := ST.out k
          simp only [HCI.out] at this
          exact this hkl
         obtain ⟨t, ht⟩ : ∃ t, fs[k] = t := ⟨_, rfl⟩
         obtain ⟨mz, hmz⟩ : ∃ z, ms[k] = z := ⟨_, rfl⟩
         rw [ht] at htus hsz
         rw [hmz] at mc0
         obtain ⟨v4, rfl, h4, -⟩ := Ty.cells htus
         have HTUS := Lib.hid htus
         obtain ⟨a4, cap4, rfl⟩ := h4.slice_inv
         have p3 := (belq.cell (p := ⟨tb, toff + k * 5, none⟩) htb).trans (htcell 0 _ rfl)
         have p4 := (belq.cell (p := ⟨tb, toff + k * 5 + 1, none⟩) htb).trans (htcell 1 _ rfl)
         have p5 := (belq.cell (p := ⟨tb, toff + k * 5 + 2, none⟩) htb).trans (htcell 2 _ rfl)
         have p6 := (belq.cell (p := ⟨tb, toff + k * 5 + 3, none⟩) htb).trans (htcell 3 _ rfl)
         have p7 := (belq.cell (p := ⟨tb, toff + k * 5 + 4, none⟩) htb).trans (htcell 4 _ rfl)
         have gm : m < s.datas.length := by have := GM.out.1; omega
         obtain ⟨db, doff, dcap, dus, hv, hdb, hdc, hdcell, hdus⟩ := G0.out.elem Data.d_len rfl m gm (by omega)
         injection hv with ha _ hcap4
         subst ha hcap4
         obtain ⟨dv2, rfl, _, _, _⟩ := Data.cells hdus
         have p10 := (belq.cell (p := ⟨db, doff + m * 3 + 1, none⟩) hdb).trans (hdcell 1 _ rfl)
         have hpar : parOf s m = (s.datas[m]).params := by simp [parOf, gm]
         rw [← hpar] at p10
         obtain ⟨PR, hPR⟩ : ∃ P, parOf s m = P := ⟨_, rfl⟩
         rw [hPR] at p10
         have HFK := Lib.hid (show Sig.fieldOk s ⟨nm, m, fs, ms⟩ k = (decide (1 ≤ mz ∧ mz ≤ 3) && (decide (tyMay t = 0) && t.whole s PR)) by
          simp only [Sig.fieldOk, List.getElem?_eq_getElem hkm, List.getElem?_eq_getElem hkl, ht, hmz, Int.toNat_natCast, hPR])
         have y1 : wq.cell? ⟨wo.heap.size, 1, none⟩ = some (.int .i64 m) := (HQ.out.2.cell 1).trans d1
         have y3 := (HQ.out.2.cell 3).trans d3
         have q0 := (HQ.out.1.sig.cell 0).trans s0
         have q1 := (HQ.out.1.sig.cell 1).trans s1
         have ki0 : (0 : Int) ≤ (k : Int) := by omega
         have ki1 : (k : Int) < (ms.length : Int) := by omega
         have ki2 : (k : Int) < (fs.length : Int) := by omega
         have mi0 : (0 : Int) ≤ (m : Int) := by omega
         have mi1 : (m : Int) < (s.datas.length : Int) := by omega
         clear hmcell hmu htus h4 htcell ht hmz hmus hdcell hdus hpar hPR
         go_upto_region 12 with fail
         go_cut [112] (fun v wx => ∃ bad : Bool, v = .bool bad ∧ Hid (bad = !(Sig.fieldOk s ⟨nm, m, fs, ms⟩ k)) ∧ Hid (SInv w wx sb ∧ Blk wx wo.heap.size cbx 88))
         case first => as_aux_lemma =>
          by_cases hm1 : mz < 1
          ·have u1 : decide (mz < 1) = true := decide_eq_true hm1
           go_quiet (fail)
           go_wp2_with fail
           go_meet
           exact ⟨true, rfl, Lib.hid (by rw [HFK.out, decide_eq_false (by omega)]; rfl), Lib.hid ⟨HQ.out.1.below (Below.drewN (Below.refl _ _) _), HQ.out.2⟩⟩
          by_cases hm3 : 3 < mz
          ·have u1 : decide (mz < 1) = false := decide_eq_false hm1
           have u2 : decide (3 < mz) = true := decide_eq_true hm3
           go_quiet (fail)
           go_wp2_with fail
           go_meet
           exact ⟨true, rfl, Lib.hid (by rw [HFK.out, decide_eq_false (by omega)]; rfl), Lib.hid ⟨HQ.out.1.below (Below.drewN (Below.refl _ _) _), HQ.out.2⟩⟩
          have u1 : decide (mz < 1) = false := decide_eq_false hm1
          have u2 : decide (3 < mz) = false := decide_eq_false hm3
          have HTM := Lib.hid (fun (W' : World) (hW : Below wq.heap.size wq W') => rtymay_any t _ W' hsz ((HTUS.out.keep (belq.trans (hW.mono belq.size))).mono (Nat.le_trans belq.size hW.size)))
          have HBQ := Lib.hid (fun (W' : World) (hW : Below wq.heap.size wq W') => (⟨HQ.out.1.below hW, HQ.out.2.below hW HQ.out.2.lt⟩ : SInv w W' sb ∧ Blk W' wo.heap.size cbx 88))
          have xlo := HQ.out.2.lt
          have xlw := belq.size
          have xls := HQ.out.1.sig.lt
          by_cases hE : tyMay t = 0
          ·-- <RD
           have hok : t.ok = true := by
            unfold tyMay at hE
            split at hE
            ·omega
            ·split at hE
             ·assumption
             ·omega
           have HWH := Lib.hid (fun (W' : World) (hW : Below wq.heap.size wq W') => rwhole_any t.size s [_, _] _ t PR W' (Nat.le_refl _) hsz hd hok
            (Rds.cons ((G0.out.keep (belq.trans (hW.mono belq.size))).mono (Nat.le_trans belq.size hW.size)) (Rds.cons ((G1.out.keep (belq.trans (hW.mono belq.size))).mono (Nat.le_trans belq.size hW.size)) Rds.nil))
            ((HTUS.out.keep (belq.trans (hW.mono belq.size))).mono (Nat.le_trans belq.size hW.size)))
           rw [hE] at HTM
           have HE0 := Lib.hid hE
           obtain ⟨Bw, hBw⟩ : ∃ B, t.whole s PR = B := ⟨_, rfl⟩
           rw [hBw] at HWH
           have HBw := Lib.hid hBw
           clear hE hBw
           refine wp_region_segs [20, 16] (by kernel_rfl) (by kernel_rfl) ?_
           rw [wpSegs]
           simp only [List.take_succ_cons, List.take_zero, List.drop_succ_cons, List.drop_zero]
           repeat (go_big_quiet_step (fail))
           refine wpQuiet_nil ?_
           rintro _ ⟨nq, rfl⟩
           go_wp2_with (go_at_call 48; refine (HTM.out _ (Below.drewN (Below.refl _ wq) _)).mono ?_; rintro e w1' ⟨rfl, hb1⟩)
           have hB1 : Below wq.heap.size wq w1' := (Below.drewN (Below.refl _ wq) _).trans hb1
           have z2 := (hB1.cell (p := ⟨wo.heap.size, 2, none⟩) xlo).trans y2
           have z1 := (hB1.cell (p := ⟨wo.heap.size, 1, none⟩) xlo).trans y1
           have z3 := (hB1.cell (p := ⟨tb, toff + k * 5, none⟩) (by first | omega | (simp; omega) | (simp; done))).trans p3
           have z4 := (hB1.cell (p := ⟨tb, toff + k * 5 + 1, none⟩) (by first | omega | (simp; omega) | (simp; done))).trans p4
           have z5 := (hB1.cell (p := ⟨tb, toff + k * 5 + 2, none⟩) (by first | omega | (simp; omega) | (simp; done))).trans p5
           have z6 := (hB1.cell (p := ⟨tb, toff + k * 5 + 3, none⟩) (by first | omega | (simp; omega) | (simp; done))).trans p6
           have z7 := (hB1.cell (p := ⟨tb, toff + k * 5 + 4, none⟩) (by first | omega | (simp; omega) | (simp; done))).trans p7
           have z8 := (hB1.cell (p := ⟨w.heap.size, 0, none⟩) xls).trans q0
           have z9 := (hB1.cell (p := ⟨w.heap.size, 1, none⟩) xls).trans q1
           have z10 := (hB1.cell (p := ⟨db, doff + m * 3 + 1, none⟩) (by first | omega | (simp; omega) | (simp; done))).trans p10
           show wpSegs _ _ _ _ _ _ _
           rw [wpSegs]
           simp only [List.take_succ_cons, List.take_zero, List.drop_succ_cons, List.drop_zero]
           repeat (go_big_quiet_step (fail))
           refine wpQuiet_nil ?_
           rintro _ ⟨nq, rfl⟩
           go_wp2_with (go_at_call 49; refine (HWH.out _ (Below.drewN hB1 _)).mono ?_; rintro e w2' ⟨rfl, hb2⟩)
           have hB2 : Below wq.heap.size wq w2' := (Below.drewN hB1 _).trans (hb2.mono hB1.size)
           show wpSegs _ _ _ _ _ _ _
           rw [wpSegs]
           repeat (go_big_quiet_step (fail))
           refine wpQuiet_nil ?_
           rintro _ ⟨nq, rfl⟩
           go_wp2_with fail
           go_meet
           exact ⟨_, rfl, Lib.hid (by rw [HFK.out, HE0.out, HBw.out, decide_eq_true (by omega : 1 ≤ mz ∧ mz ≤ 3)]; simp), Lib.hid (HBQ.out _ (Below.drewN hB2 _))⟩
          ·have h23 : tyMay t = 2 ∨ tyMay t = 3 := by
            unfold tyMay at hE ⊢
            split
            ·exact .inr rfl
            ·rename_i h3
             rw [if_neg h3] at hE
             split
             ·rename_i h4
              rw [if_pos h4] at hE
              exact absurd rfl hE
             ·exact .inl rfl
           clear hE
           rcases h23 with h23 | h23
           all_goals
            rw [h23] at HTM
            have HE0 := Lib.hid h23
            clear h23
            refine wp_region_segs [20, 16] (by kernel_rfl) (by kernel_rfl) ?_
            rw [wpSegs]
            simp only [List.take_succ_cons, List.take_zero, List.drop_succ_cons, List.drop_zero]
            repeat (go_big_quiet_step (fail))
            refine wpQuiet_nil ?_
            rintro _ ⟨nq, rfl⟩
            go_wp2_with (go_at_call 48; refine (HTM.out _ (Below.drewN (Below.refl _ wq) _)).mono ?_; rintro e w1' ⟨rfl, hb1⟩)
            have hB1 : Below wq.heap.size wq w1' := (Below.drewN (Below.refl _ wq) _).trans hb1
            show wpSegs _ _ _ _ _ _ _
            rw [wpSegs]
            simp only [List.take_succ_cons, List.take_zero, List.drop_succ_cons, List.drop_zero]
            repeat (go_big_quiet_step (fail))
            refine wpQuiet_nil ?_
            rintro _ ⟨nq, rfl⟩
            go_wp2
            show wpSegs _ _ _ _ _ _ _
            rw [wpSegs]
            repeat (go_big_quiet_step (fail))
            refine wpQuiet_nil ?_
            rintro _ ⟨nq, rfl⟩
            go_wp2_with fail
            go_meet
            exact ⟨true, rfl, Lib.hid (by rw [HFK.out, HE0.out]; simp), Lib.hid (HBQ.out _ (Below.drewN (Below.drewN hB1 _) _))⟩
         case rest => as_aux_lemma =>
          obtain ⟨bad, rfl, HBAD, HQ2⟩ := hcut
          cases bad
          ·have HK2 := Lib.hid (show ∀ j, j < k + 1 → Sig.fieldOk s ⟨nm, m, fs, ms⟩ j = true from fun j hj => by
            rcases Nat.lt_succ_iff_lt_or_eq.1 hj with h | rfl
            ·exact HK.out j h
            ·simpa using HBAD.out.symm)
           go_wp2_with fail
           go_roundw
           case rel => exact ⟨k + 1, hkl, by go_num, HK2, HQ2⟩
           case measure => simp [intOf]; omega
          ·have HM2 := Lib.hid (Sig.may_con s i hlt (by
            simp only [Sig.conOk, HCI2.out]
            have : (List.range fs.length).all (Sig.fieldOk s ⟨nm, m, fs, ms⟩) = false := by
             rw [List.all_eq_false]; exact ⟨k, List.mem_range.2 hkl, by simpa using HBAD.out.symm⟩
            rw [this]; simp))
           go_wp2_with fail
           go_ret
           exact ⟨ret_b HM2.out.symm, HQ2.out.1.bel⟩
        ·have e1 : decide ((k : Int) < (fs.length : Int)) = false := decide_eq_false (by omega)
         have HE2 := Lib.hid (show ∀ j, j < i + 1 → s.conOk j = true from fun j hj => by
          rcases Nat.lt_succ_iff_lt_or_eq.1 hj with h | rfl
          ·exact HE.out j h
          ·simp only [Sig.conOk, HCI2.out, Sig.conHead, Bool.and_eq_true, decide_eq_true_eq]
           exact ⟨⟨by omega, GM.out.1, GM.out.2, G3.out⟩, HC0.out, List.all_eq_true.2 fun q hq => HK.out q (by have := List.mem_range.1 hq; omega)⟩)
         have HB2 := Lib.hid HQ.out.1
         go_wp2
         go_roundw
         case rel => exact ⟨i + 1, hlt, by go_num, HE2, HB2⟩
         case measure => simp [intOf]; omega
      ·have t4 : (z != (i : Int)) = true := by simp [hzi]
       have HM2 := Lib.hid (Sig.may_con s i hlt (by
        simp only [Sig.conOk, HCI2.out]
        rw [decide_eq_false (by rw [HZZ.out]; exact hzi)]; simp))
       clear hzi
       go_wp2
       go_ret
       exact ⟨ret_b HM2.out.symm, hbel2⟩
     ·have HM2 := Lib.hid (HNO.out hrest)
      by_cases g0 : dt < 0
      ·have t0 : decide (dt < 0) = true := decide_eq_true g0
       clear hrest
       go_wp2
       go_ret
       exact ⟨ret_b HM2.out.symm, by (repeat (with_reducible first | exact HB.out.bel | refine Below.setCell ?_ ?_ _ | refine Below.alloc ?_ ?_ _ | refine Below.drewN ?_ _ | refine Below.drew ?_)) <;> first | omega | (simp; omega) | (simp; done)⟩
      have t0 : decide (dt < 0) = false := decide_eq_false g0
      by_cases g1 : (s.datas.length : Int) ≤ dt
      ·have t1 : decide ((s.datas.length : Int) ≤ dt) = true := decide_eq_true g1
       clear hrest
       go_wp2
       go_ret
       exact ⟨ret_b HM2.out.symm, by (repeat (with_reducible first | exact HB.out.bel | refine Below.setCell ?_ ?_ _ | refine Below.alloc ?_ ?_ _ | refine Below.drewN ?_ _ | refine Below.drew ?_)) <;> first | omega | (simp; omega) | (simp; done)⟩
      have t1 : decide ((s.datas.length : Int) ≤ dt) = false := decide_eq_false g1
      by_cases g2 : (8 : Int) < (fs.length : Int)
      ·have t2 : decide ((8 : Int) < (fs.length : Int)) = true := decide_eq_true g2
       clear hrest
       go_wp2
       go_ret
       exact ⟨ret_b HM2.out.symm, by (repeat (with_reducible first | exact HB.out.bel | refine Below.setCell ?_ ?_ _ | refine Below.alloc ?_ ?_ _ | refine Below.drewN ?_ _ | refine Below.drew ?_)) <;> first | omega | (simp; omega) | (simp; done)⟩
      have t2 : decide ((8 : Int) < (fs.length : Int)) = false := decide_eq_false g2
      have t3 : ((ms.length : Int) != (fs.length : Int)) = true := by simp; omega
      clear hrest
      go_wp2
      go_ret
      exact ⟨ret_b HM2.out.symm, by (repeat (with_reducible first | exact HB.out.bel | refine Below.setCell ?_ ?_ _ | refine Below.alloc ?_ ?_ _ | refine Below.drewN ?_ _ | refine Below.drew ?_)) <;> first | omega | (simp; omega) | (simp; done)⟩
    ·have hall : ∀ j, j < s.cons.length → s.conOk j = true := fun j hj => HE.out j (by omega)
     have HALL := Lib.hid hall
     have e1 : decide ((i : Int) < (s.cons.length : Int)) = false := decide_eq_false (by omega)
     clear hall
     go_wp2
     go_meet
     exact ⟨HALL, HB⟩
  case rest => as_aux_lemma =>
   obtain ⟨HOKC, HB1⟩ := hcut
   go_wp2_with fail
   go_loopw [6] (fun u wr => ∃ j : Nat, j ≤ s.datas.length ∧ u = .int .i64 j ∧ Hid (∀ m, m < j → s.dataOk m = true) ∧ Hid (SInv w wr sb)) (fun u _ => s.datas.length - (intOf u).toNat)
   case atStart => exact ⟨0, Nat.zero_le _, rfl, fun j hj => absurd hj (Nat.not_lt_zero _), HB1⟩
   case round =>
    obtain ⟨wo, rfl⟩ : ∃ x, x = wr := ⟨_, rfl⟩
    obtain ⟨j, hj, rfl, HE, HB⟩ := hrel
    have hbelo := HB.out.bel
    have hszo := hbelo.size
    have x0 : wo.cell? ⟨w.heap.size, 0, none⟩ = some (.slice ad s.datas.length cd) := (HB.out.sig.cell 0).trans s0
    have x1 : wo.cell? ⟨w.heap.size, 1, none⟩ = some (.slice ac s.cons.length cc) := (HB.out.sig.cell 1).trans s1
    have hsl := HB.out.sig.lt
    by_cases hlt : j < s.datas.length
    ·obtain ⟨b, off, cap', us, hv, hb, hcp, hcell, hus⟩ := G0.out.elem Data.d_len rfl j hlt (by omega)
     injection hv with ha _ hcap
     subst ha hcap
     obtain ⟨d, hdd⟩ : ∃ d, s.datas[j] = d := ⟨_, rfl⟩
     rw [hdd] at hus
     have hfirst := fun (z : Int) (h : FirstAt (s.datas.map Data.name) s.datas[j].name z) => Sig.data_first s j hlt h
     rw [hdd] at hfirst
     obtain ⟨d2, rfl, -, -, q2⟩ := Data.cells hus
     obtain ⟨sn, sdc⟩ := SM.out.data j hlt
     rw [hdd] at sn sdc
     obtain ⟨nm, pr, dc⟩ := d
     simp only at q2 hcell sn sdc hfirst
     have HFI := Lib.hid hfirst
     have hdi : s.datas[j]? = some ⟨nm, pr, dc⟩ := by rw [List.getElem?_eq_getElem hlt, hdd]
     have HDO := Lib.hid (show s.dataOk j = (decide (0 ≤ pr ∧ pr ≤ 4) && (decide (s.ofs j s.cons.length ≠ []) && (decide (s.ofs j s.cons.length = dc) && decide ((s.dseen j).count (Sig.dname ⟨nm, pr, dc⟩) = 0)))) by simp only [Sig.dataOk, hdi])
     have HMD := Lib.hid (fun (h : s.dataOk j = false) => Sig.may_data s j hlt h)
     have Q2 := Lib.hid q2
     obtain ⟨fa, fc, rfl⟩ := q2.slice_inv
     have c0 := (hbelo.cell (p := ⟨b, off + j * 3, none⟩) hb).trans (hcell 0 _ rfl)
     have c1 := (hbelo.cell (p := ⟨b, off + j * 3 + 1, none⟩) hb).trans (hcell 1 _ rfl)
     have c2 := (hbelo.cell (p := ⟨b, off + j * 3 + 2, none⟩) hb).trans (hcell 2 _ rfl)
     clear hcell hus q2 hfirst hdi hdd
     by_cases g0 : pr < 0
     ·have t0 : decide (pr < 0) = true := decide_eq_true g0
      have HM2 := Lib.hid (HMD.out (HDO.out.trans (and_no (.inl (by omega)))))
      go_wp2
      go_ret
      exact ⟨ret_b HM2.out.symm, by (repeat (with_reducible first | exact hbelo | refine Below.setCell ?_ ?_ _ | refine Below.alloc ?_ ?_ _ | refine Below.drewN ?_ _ | refine Below.drew ?_)) <;> first | omega | (simp; omega) | (simp; done)⟩
     have t0 : decide (pr < 0) = false := decide_eq_false g0
     by_cases g1 : 4 < pr
     ·have t1 : decide (4 < pr) = true := decide_eq_true g1
      have HM2 := Lib.hid (HMD.out (HDO.out.trans (and_no (.inl (by omega)))))
      go_wp2
      go_ret
      exact ⟨ret_b HM2.out.symm, by (repeat (with_reducible first | exact hbelo | refine Below.setCell ?_ ?_ _ | refine Below.alloc ?_ ?_ _ | refine Below.drewN ?_ _ | refine Below.drew ?_)) <;> first | omega | (simp; omega) | (simp; done)⟩
     have t1 : decide (4 < pr) = false := decide_eq_false g1
     go_wp2_with fail
     refine (HDAT.out nm _ (by (repeat (with_reducible first | exact hbelo | refine Below.setCell ?_ ?_ _ | refine Below.alloc ?_ ?_ _ | refine Below.drewN ?_ _ | refine Below.drew ?_)) <;> first | omega | (simp; omega) | (simp; done))).mono ?_
     rintro e w2 ⟨⟨z, rfl, hz⟩, hb2⟩
     have hzz := HFI.out z hz
     have HZZ := Lib.hid hzz
     have hdb := (Blk.new wo _ #[.string nm, .int .i64 pr, .slice fa dc.length fc] 97 rfl).below hb2 (by simp)
     have hsi : SInv w w2 sb := HB.out.below (((Below.refl _ _).alloc (Nat.le_refl _) _).trans (hb2.mono (by simp)))
     have HSI := Lib.hid hsi
     have z2 : w2.cell? ⟨wo.heap.size, 2, none⟩ = some (.slice fa dc.length fc) := (hdb.cell 2).trans rfl
     have z1 : w2.cell? ⟨w.heap.size, 1, none⟩ = some (.slice ac s.cons.length cc) := (hsi.sig.cell 1).trans s1
     have hbel2 := hsi.bel
     clear c0 c1 c2 x0 x1 hz hzz hdb hb2 hsi
     by_cases hzj : z = (j : Int)
     ·have t2 : (z != (j : Int)) = false := by simp [hzj]
      have HC0 := Lib.hid (show (s.dseen j).count (Sig.dname ⟨nm, pr, dc⟩) = 0 by rw [HZZ.out]; exact hzj)
      clear hzj
      by_cases hd0 : dc.length = 0
      ·have t3 : ((dc.length : Int) == 0) = true := by simp [hd0]
       have HM2 := Lib.hid (HMD.out (by
        refine HDO.out.trans (and_no (Decidable.or_iff_not_imp_left.2 fun _ => ?_))
        by_cases ho : s.ofs j s.cons.length = []
        ·exact .inl (fun h => h ho)
        ·exact .inr (.inl (fun e => ho (e.trans (List.eq_nil_of_length_eq_zero hd0))))))
       clear hd0
       go_wp2
       go_ret
       exact ⟨ret_b HM2.out.symm, hbel2⟩
      ·have t3 : ((dc.length : Int) == 0) = false := by rw [nat_beq0, decide_eq_false hd0]
       have HD0 := Lib.hid hd0
       clear hd0
       go_wp2_with fail
       go_loopw [8, 9] (fun u8 u9 wr => ∃ at_ i : Nat, i ≤ s.cons.length ∧ at_ ≤ dc.length ∧ u9 = .int .i64 i ∧ u8 = .int .i64 at_ ∧ Hid (s.ofs j i = dc.take at_) ∧ wr = w2) (fun _ u _ => s.cons.length - (intOf u).toNat)
       case atStart => exact ⟨0, 0, Nat.zero_le _, Nat.zero_le _, rfl, rfl, Lib.hid (by simp [Sig.ofs]), rfl⟩
       case round =>
        obtain ⟨at_, i, hi, hat, rfl, rfl, HO, rfl⟩ := hrel
        by_cases hil : i < s.cons.length
        ·obtain ⟨cb, coff, ccap, cus, hcv, hcb, hccp, hccell, hcus⟩ := G1.out.elem Con.d_len rfl i hil (by omega)
         injection hcv with ha _ hcap
         subst ha hcap
         obtain ⟨fv, mv, rfl, -, -, -, -⟩ := Con.cells hcus
         have k1 := (hbel2.cell (p := ⟨cb, coff + i * 4 + 1, none⟩) hcb).trans (hccell 1 _ rfl)
         have hstep := Sig.ofs_step s j i hil
         have hbad := fun h => Sig.ofs_bad s j i hil hat HO.out h
         obtain ⟨dt, hdt⟩ : ∃ x, (s.cons[i]).data = x := ⟨_, rfl⟩
         rw [hdt] at k1 hstep hbad
         have HST := Lib.hid hstep
         have HBAD := Lib.hid hbad
         clear hccell hcus hdt hstep hbad
         by_cases hde : dt = (j : Int)
         ·have t4 : (dt != (j : Int)) = false := by simp [hde]
          have HDE := Lib.hid hde
          clear hde
          by_cases ham : at_ < dc.length
          ·have t5 : decide ((dc.length : Int) ≤ (at_ : Int)) = false := decide_eq_false (by omega)
           obtain ⟨mb, moff, mcap, mus, hmv, hmb, hmc, hmcell, hmus⟩ := (show Rd w w.heap.size _ (.list 1 dc.length (dc.flatMap fun z : Int => [D.int .i64 z])) by rw [ints_flat]; exact Q2.out).elem (fun _ => rfl) rfl at_ ham (by omega)
           injection hmv with ha _ hcap3
           subst ha hcap3
           obtain ⟨mu0, mus', rfl, hmu, -⟩ := hmus.cons_inv
           obtain ⟨rfl, wmu⟩ := hmu.int_inv
           have k2 := (hbel2.cell (p := ⟨mb, moff + at_ * 1, none⟩) hmb).trans (hmcell 0 _ rfl)
           rw [Nat.mul_one] at k2
           obtain ⟨y, hy⟩ : ∃ y, dc[at_] = y := ⟨_, rfl⟩
           rw [hy] at k2
           have HY := Lib.hid hy
           have i1 : (at_ : Int) < (dc.length : Int) := by omega
           have i2 : (0 : Int) ≤ (at_ : Int) := by omega
           clear hmcell hmu hmus hy
           by_cases hyi : y = (i : Int)
           ·have t6 : (y != (i : Int)) = false := by simp [hyi]
            have HO2 := Lib.hid (show s.ofs j (i + 1) = dc.take (at_ + 1) by rw [HST.out, if_pos HDE.out, HO.out]; exact Sig.ofs_take ham (HY.out.trans hyi))
            clear hyi
            go_wp2
            go_roundw
            case rel => exact ⟨at_ + 1, i + 1, hil, ham, by go_num, by go_num, HO2, by simp⟩
            case measure => simp [intOf]; omega
           ·have t6 : (y != (i : Int)) = true := by simp [hyi]
            have HM2 := Lib.hid (HMD.out (HDO.out.trans (and_no (.inr (.inr (.inl (HBAD.out HDE.out fun h => by rw [HY.out]; exact hyi)))))))
            clear hyi
            go_wp2
            go_ret
            exact ⟨ret_b HM2.out.symm, hbel2⟩
          ·have t5 : decide ((dc.length : Int) ≤ (at_ : Int)) = true := decide_eq_true (by omega)
           have HM2 := Lib.hid (HMD.out (HDO.out.trans (and_no (.inr (.inr (.inl (HBAD.out HDE.out fun h => absurd h ham)))))))
           go_wp2
           go_ret
           exact ⟨ret_b HM2.out.symm, hbel2⟩
         ·have t4 : (dt != (j : Int)) = true := by simp [hde]
          have HO2 := Lib.hid (show s.ofs j (i + 1) = dc.take at_ by rw [HST.out, if_neg hde, HO.out])
          clear hde
          go_wp2
          go_roundw
          case rel => exact ⟨at_, i + 1, hil, hat, by go_num, rfl, HO2, by simp⟩
          case measure => simp [intOf]; omega
        ·have e1 : decide ((i : Int) < (s.cons.length : Int)) = false := decide_eq_false (by omega)
         have hie : i = s.cons.length := by omega
         have hend := Sig.ofs_end s j hat (by rw [← hie]; exact HO.out)
         have HEND := Lib.hid hend
         clear hie hend
         by_cases hal : at_ = dc.length
         ·have t5 : ((at_ : Int) != (dc.length : Int)) = false := by simp [hal]
          have hof : s.ofs j s.cons.length = dc := by rw [HEND.out]; exact hal
          have HE2 := Lib.hid (show ∀ m, m < j + 1 → s.dataOk m = true from fun m hm => by
           rcases Nat.lt_succ_iff_lt_or_eq.1 hm with h | rfl
           ·exact HE.out m h
           ·exact HDO.out.trans (and_yes ⟨by omega, by omega⟩ (by rw [hof]; exact fun e => HD0.out (by rw [e]; rfl)) hof HC0.out))
          clear hal hof
          go_wp2
          go_roundw
          case rel => exact ⟨j + 1, hlt, by go_num, HE2, HSI⟩
          case measure => simp [intOf]; omega
         ·have t5 : ((at_ : Int) != (dc.length : Int)) = true := by simp; omega
          have HM2 := Lib.hid (HMD.out (HDO.out.trans (and_no (.inr (.inr (.inl (by rw [HEND.out]; exact hal)))))))
          clear hal
          go_wp2
          go_ret
          exact ⟨ret_b HM2.out.symm, hbel2⟩
     ·have t2 : (z != (j : Int)) = true := by simp [hzj]
      have HM2 := Lib.hid (HMD.out (HDO.out.trans (and_no (.inr (.inr (.inr (by rw [HZZ.out]; exact hzj)))))))
      clear hzj
      go_wp2
      go_ret
      exact ⟨ret_b HM2.out.symm, hbel2⟩
    ·have HM2 := Lib.hid (Sig.may_yes s ⟨h40, h100⟩ HOKC.out (fun m hm => HE.out m (by omega)))
     have e1 : decide ((j : Int) < (s.datas.length : Int)) = false := decide_eq_false (by omega)
     go_wp2
     go_ret
     exact ⟨ret_b HM2.out.symm, hbelo⟩
 ·have HM := Lib.hid (Sig.may_no s hbig)
  by_cases h40 : s.datas.length ≤ 40
  ·have t40 : decide ((40 : Int) < (s.datas.length : Int)) = false := decide_eq_false (by omega)
   have t100 : decide ((100 : Int) < (s.cons.length : Int)) = true := decide_eq_true (by omega)
   go_enter Tryz.func15, Tryz.ntmps15
   go_wp2
   go_ret
   exact ⟨ret_b HM.out.symm, by (repeat (with_reducible first | exact Below.refl _ _ | refine Below.setCell ?_ ?_ _ | refine Below.alloc ?_ ?_ _ | refine Below.drewN ?_ _ | refine Below.drew ?_)) <;> first | omega | (simp; omega) | (simp; done)⟩
  ·have t40 : decide ((40 : Int) < (s.datas.length : Int)) = true := decide_eq_true (by omega)
   go_enter Tryz.func15, Tryz.ntmps15
   go_wp2
   go_ret
   exact ⟨ret_b HM.out.symm, by (repeat (with_reducible first | exact Below.refl _ _ | refine Below.setCell ?_ ?_ _ | refine Below.alloc ?_ ?_ _ | refine Below.drewN ?_ _ | refine Below.drew ?_)) <;> first | omega | (simp; omega) | (simp; done)⟩
end Go.Proofs.YtdhodaefgliphaaGreatDoor
