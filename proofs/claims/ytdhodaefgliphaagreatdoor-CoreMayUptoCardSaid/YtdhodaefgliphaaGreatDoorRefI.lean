/- Contracts of the document's answer for signatures: Is of a multiplicity, Is and May of a type. -/
import Derived.Test.YtdhodaefgliphaaGreatDoorRefG
import Derived.Deep.CutBlock
import Derived.Deep.DeepCutAuto
import Derived.Test.YtdhodaefgliphaaGreatDoorDatM
set_option linter.unusedVariables false
set_option linter.unusedSimpArgs false
namespace Go.Proofs.YtdhodaefgliphaaGreatDoor
open Go.RowKit
set_option maxHeartbeats 400000 in
theorem rmu_any (v c : Int) (w : World) :
  Calls Tryz.prog 123 #[.agg #[.int .i64 v, .int .u8 c]] w fun e w' => e = .returned (.bool (decide (isMu v c = 0))) ∧ Below w.heap.size w w' := by
 go_enter Tryz.func123, Tryz.ntmps123
 go_wp2
 all_goals
  go_ret
  refine ⟨ret_b ?_, (Below.refl _ _).alloc (Nat.le_refl _) _⟩
  go_light
  rw [Bool.eq_iff_iff]
  simp [isMu] at *
  try omega
set_option maxRecDepth 100000 in
set_option maxHeartbeats 4000000 in
theorem ris_any : ∀ (N : Nat) (t : Ty) (us : List Value) (w : World), t.size ≤ N → t.size ≤ 1048576 → Rds w w.heap.size us t.d →
  Calls Tryz.prog 82 #[.agg us.toArray] w fun e w' => e = .returned (.bool t.ok) ∧ Below w.heap.size w w' := by
 intro N
 induction N with
 | zero => intro t us w h; have := size_pos t; omega
 | succ N ih =>
   intro t us w hN hs hus
   have IH := Lib.hid ih
   clear ih
   obtain ⟨v4, rfl, h4, w0, w1, w2, w3⟩ := Ty.cells hus
   have hsz := size_eq t
   have HE := Lib.hid (Ty.ok_eq t)
   obtain ⟨l, hl⟩ : ∃ l, t.l = l := ⟨_, rfl⟩
   obtain ⟨k, hk⟩ : ∃ l, t.kind = l := ⟨_, rfl⟩
   obtain ⟨n, hn⟩ : ∃ l, t.n = l := ⟨_, rfl⟩
   obtain ⟨v, hv⟩ : ∃ l, t.v = l := ⟨_, rfl⟩
   obtain ⟨c, hc⟩ : ∃ l, t.c = l := ⟨_, rfl⟩
   rw [hl] at h4 hsz
   rw [hl, hk, hn, hv, hc] at HE
   simp only [hl, hk, hn, hv, hc]
   have hlen : l.length ≤ 1048576 := by have := sizes_len l; omega
   have H4 := Lib.hid h4
   obtain ⟨a, cap, rfl⟩ := h4.slice_inv
   have HS := Lib.hid hsz
   clear hsz hl hus hk hn hv hc h4 w0 w1 w2 w3
   go_enter Tryz.func82, Tryz.ntmps82
   go_upto_region 1 with fail
   obtain ⟨box, hbox⟩ : ∃ b : Array Value, #[.int .u8 k, .int .i64 n, .int .i64 v, .int .u8 c, .slice a l.length cap] = b := ⟨_, rfl⟩
   have b0 : box[0]? = some (.int .u8 k) := by rw [← hbox]; rfl
   have b1 : box[1]? = some (.int .i64 n) := by rw [← hbox]; rfl
   have b2 : box[2]? = some (.int .i64 v) := by rw [← hbox]; rfl
   have b3 : box[3]? = some (.int .u8 c) := by rw [← hbox]; rfl
   have b4 : box[4]? = some (.slice a l.length cap) := by rw [← hbox]; rfl
   obtain ⟨W0, hW0⟩ : ∃ W, w.alloc (.cells box 93) = W := ⟨_, rfl⟩
   have hb0 : Blk W0 w.heap.size box 93 := by rw [← hW0]; exact Blk.new _ _ _ _ rfl
   have hl0 : Below w.heap.size w W0 := by rw [← hW0]; exact (Below.refl _ _).alloc (Nat.le_refl _) _
   have hs0 : Hid (W0.heap.size = w.heap.size + 1) := Lib.hid (by rw [← hW0]; simp)
   rw [hbox, hW0]
   clear hbox hW0
   go_cut [3] (fun z wx => z = .bool (decide (v = 0 ∧ c = 0)) ∧ wx = W0)
   case first => as_aux_lemma =>
    have x2 : W0.cell? ⟨w.heap.size, 2, none⟩ = some (.int .i64 v) := (hb0.cell 2).trans b2
    have x3 : W0.cell? ⟨w.heap.size, 3, none⟩ = some (.int .u8 c) := (hb0.cell 3).trans b3
    clear b0 b1 b2 b3 b4 HE
    go_wp2_with fail
    all_goals
     go_meet
     refine ⟨congrArg Value.bool ?_, rfl⟩
     go_light
     rw [Bool.eq_iff_iff]
     simp at *
     try omega
   case rest => as_aux_lemma =>
    obtain ⟨rfl, rfl⟩ := hcut
    have x0 : wc.cell? ⟨w.heap.size, 0, none⟩ = some (.int .u8 k) := (hb0.cell 0).trans b0
    go_upto_block 0 with fail
    obtain ⟨zz, hzz⟩ : ∃ z, decide (v = 0 ∧ c = 0) = z := ⟨_, rfl⟩
    rw [hzz]
    have HZ := Lib.hid hzz
    clear hzz
    go_cut [3, 4] (fun z q wx => z = .bool zz ∧ q = .bool (isT k n v c l.length) ∧ Below wc.heap.size wc wx)
    case first => as_aux_lemma =>
     have x0 : wc.cell? ⟨w.heap.size, 0, none⟩ = some (.int .u8 k) := (hb0.cell 0).trans b0
     have x1 : wc.cell? ⟨w.heap.size, 1, none⟩ = some (.int .i64 n) := (hb0.cell 1).trans b1
     have x2 : wc.cell? ⟨w.heap.size, 2, none⟩ = some (.int .i64 v) := (hb0.cell 2).trans b2
     have x3 : wc.cell? ⟨w.heap.size, 3, none⟩ = some (.int .u8 c) := (hb0.cell 3).trans b3
     have x4 : wc.cell? ⟨w.heap.size, 4, none⟩ = some (.slice a l.length cap) := (hb0.cell 4).trans b4
     have hws : w.heap.size < wc.heap.size := hb0.lt
     obtain ⟨L, hL⟩ : ∃ L, l.length = L := ⟨_, rfl⟩
     simp only [hL] at *
     clear b0 b1 b2 b3 b4 HE hb0 hL
     obtain ⟨hz1, hz2⟩ : (zz = true → v = 0 ∧ c = 0) ∧ (zz = false → ¬(v = 0 ∧ c = 0)) := by have := HZ.out; constructor <;> intro h <;> subst h <;> simpa using this
     clear HZ
     cases zz
     all_goals simp only [forall_const, reduceCtorEq, false_implies] at hz1 hz2
     all_goals go_wp2_with (go_at_call 123; refine (rmu_any _ _ _).mono ?_; rintro e w2 ⟨rfl, hb2⟩; have y1 := (hb2.cell (p := ⟨w.heap.size, 1, none⟩) hws).trans x1; have y4 := (hb2.cell (p := ⟨w.heap.size, 4, none⟩) hws).trans x4)
     all_goals
      go_meet
      refine ⟨rfl, congrArg Value.bool ?_, ?_⟩
      ·go_light
       try simp at *
       try subst_vars
       rw [Bool.eq_iff_iff]
       try simp [isT, kidsZ, isMu] at *
       first | done | omega | (split <;> omega) | (split <;> split <;> omega) | (split <;> split <;> split <;> omega)
      ·first
        | exact Below.refl _ _
        | exact hb2
    case rest => as_aux_lemma =>
     obtain ⟨rfl, rfl, hbc⟩ := hcut
     obtain ⟨q, hq⟩ : ∃ q, isT k n v c l.length = q := ⟨_, rfl⟩
     rw [hq] at HE ⊢
     have HB0 := Lib.hid (⟨hl0.trans (hbc.mono hl0.size), hb0.below hbc hb0.lt⟩ : Below w.heap.size w wc ∧ Blk wc w.heap.size box 93)
     have HOK0 := Lib.hid (show q = (q && !((l.take 0).any fun x => !x.ok)) by simp)
     have hlw := hl0.size
     clear hq hbc hb0 hl0 b0 b1 b2 b3 x0
     go_wp2_with fail
     go_loopw [5, 4] (fun u u4 wr => ∃ (i : Nat) (ok : Bool), i ≤ l.length ∧ u = .int .i64 i ∧ u4 = .bool ok ∧ Hid (ok = (q && !((l.take i).any fun x => !x.ok))) ∧ Hid (Below w.heap.size w wr ∧ Blk wr w.heap.size box 93)) (fun u _ _ => l.length - (intOf u).toNat)
     case atStart => exact ⟨0, q, Nat.zero_le _, rfl, rfl, HOK0, HB0⟩
     case round =>
      obtain ⟨i, ok, hil, rfl, rfl, HOK, HB⟩ := hrel
      have hbel := HB.out.1
      have hsz0 := hbel.size
      have x4 : wr.cell? ⟨w.heap.size, 4, none⟩ = some (.slice a l.length cap) := (HB.out.2.cell 4).trans b4
      by_cases hlt : i < l.length
      ·have HT := Lib.hid (show (l.take (i + 1)).any (fun x => !x.ok) = ((l.take i).any (fun x => !x.ok) || !l[i].ok) by rw [List.take_succ_eq_append_getElem hlt, List.any_append]; simp)
       cases ok
       ·have HF := Lib.hid (show false = (q && !((l.take (i + 1)).any fun x => !x.ok)) by
         rw [HT.out]
         have := HOK.out
         revert this
         cases q <;> cases (l.take i).any (fun x => !x.ok) <;> simp)
        go_wp2
        go_roundw
        case rel => exact ⟨i + 1, false, hlt, by go_num, rfl, HF, HB⟩
        case measure => simp [intOf]; omega
       ·have hqa : q = true ∧ (l.take i).any (fun x => !x.ok) = false := by
         have := HOK.out
         revert this
         cases q <;> cases (l.take i).any (fun x => !x.ok) <;> simp
        have HQA := Lib.hid hqa
        obtain ⟨b, off, cap', us, hv, hb, hc, hcell, hus⟩ := H4.out.elem Ty.d_len rfl i hlt (by omega)
        injection hv with ha hn' hcap
        subst ha hcap
        have hsub : l[i].size ≤ N ∧ l[i].size ≤ 1048576 := by have := sizes_get l i hlt; have := HS.out; omega
        have HC := Lib.hid (IH.out l[i] us wr hsub.1 hsub.2 ((hus.keep hbel).mono hbel.size))
        obtain ⟨v4', hus', h4', -, -, -, -⟩ := Ty.cells hus
        obtain ⟨a2, cap2, rfl⟩ := h4'.slice_inv
        subst hus'
        have c0 := (hbel.cell (p := ⟨b, off + i * 5, none⟩) hb).trans (hcell 0 _ rfl)
        have c1 := (hbel.cell (p := ⟨b, off + i * 5 + 1, none⟩) hb).trans (hcell 1 _ rfl)
        have c2 := (hbel.cell (p := ⟨b, off + i * 5 + 2, none⟩) hb).trans (hcell 2 _ rfl)
        have c3 := (hbel.cell (p := ⟨b, off + i * 5 + 3, none⟩) hb).trans (hcell 3 _ rfl)
        have c4 := (hbel.cell (p := ⟨b, off + i * 5 + 4, none⟩) hb).trans (hcell 4 _ rfl)
        clear hcell hus h4' hqa hsub
        go_wp2_with fail
        refine HC.out.mono ?_
        rintro e w2 ⟨rfl, hb2⟩
        have HI2 := Lib.hid (⟨hbel.trans (hb2.mono hsz0), HB.out.2.below hb2 HB.out.2.lt⟩ : Below w.heap.size w w2 ∧ Blk w2 w.heap.size box 93)
        obtain ⟨r, hr⟩ : ∃ r, l[i].ok = r := ⟨_, rfl⟩
        have HF := Lib.hid (show r = (q && !((l.take (i + 1)).any fun x => !x.ok)) by rw [HT.out, HQA.out.1, HQA.out.2, hr]; simp)
        rw [hr]
        clear hr hb2
        go_wp2
        go_roundw
        case rel => exact ⟨i + 1, r, hlt, by go_num, rfl, HF, HI2⟩
        case measure => simp [intOf]; omega
      ·have HF := Lib.hid (show ok = t.ok by rw [HE.out, HOK.out, List.take_of_length_le (by omega)])
       have e1 : decide ((i : Int) < (l.length : Int)) = false := decide_eq_false (by omega)
       go_wp2
       go_ret
       exact ⟨ret_b HF.out, hbel⟩
set_option maxHeartbeats 1000000 in
theorem rtymay_any (t : Ty) (us : List Value) (w : World) (hs : t.size ≤ 1048576) (hus : Rds w w.heap.size us t.d) :
  Calls Tryz.prog 48 #[.agg us.toArray] w fun e w' => e = .returned (.int .i64 (tyMay t)) ∧ Below w.heap.size w w' := by
 have HS := Lib.hid (fun (W : World) (hW : Below w.heap.size w W) => rsize_any t.size t us W (Nat.le_refl _) hs ((hus.keep hW).mono hW.size))
 have HM := Lib.hid (fun (W : World) (hW : Below w.heap.size w W) => ris_any t.size t us W (Nat.le_refl _) hs ((hus.keep hW).mono hW.size))
 obtain ⟨v4, rfl, h4, _⟩ := Ty.cells hus
 obtain ⟨a, cap, rfl⟩ := h4.slice_inv
 obtain ⟨OK, hOK⟩ : ∃ B, t.ok = B := ⟨_, rfl⟩
 have HOK := Lib.hid hOK
 rw [hOK] at HM
 have hbx := Blk.new w _ #[.int .u8 t.kind, .int .i64 t.n, .int .i64 t.v, .int .u8 t.c, .slice a t.l.length cap] 93 rfl
 clear hus h4 hOK
 go_enter Tryz.func48, Tryz.ntmps48
 go_wp2_with fail
 refine (HS.out _ ((Below.refl _ _).alloc (Nat.le_refl _) _)).mono ?_
 rintro e w2 ⟨rfl, hb2⟩
 have hb3 := ((Below.refl w.heap.size w).alloc (Nat.le_refl _) _).trans (hb2.mono (by simp))
 have hbx2 := hbx.below hb2 (by simp)
 by_cases h300 : 300 < t.size
 ·have e1 : decide ((300 : Int) < (t.size : Int)) = true := decide_eq_true (by omega)
  go_wp2
  go_ret
  exact ⟨ret_i (by simp [tyMay, h300]), hb3⟩
 ·have e1 : decide ((300 : Int) < (t.size : Int)) = false := decide_eq_false (by omega)
  have y0 := hbx2.cell 0
  have y1 := hbx2.cell 1
  have y2 := hbx2.cell 2
  have y3 := hbx2.cell 3
  have y4 := hbx2.cell 4
  simp only [List.getElem?_toArray, List.getElem?_cons_zero, List.getElem?_cons_succ] at y0 y1 y2 y3 y4
  go_wp2_with fail
  refine (HM.out _ hb3).mono ?_
  rintro e w3 ⟨rfl, hb4⟩
  have hb5 := hb3.trans (hb4.mono hb3.size)
  have HB5 := Lib.hid hb5
  cases OK
  all_goals
   go_wp2
   go_ret
   exact ⟨ret_i (by simp [tyMay, h300, HOK.out]), HB5.out⟩
end Go.Proofs.YtdhodaefgliphaaGreatDoor
namespace Go.Proofs.YtdhodaefgliphaaGreatDoor
open Go.RowKit
structure WInv (w wr : World) (sb tb : Array Value) : Prop where
 bel : Below w.heap.size w wr
 sig : Blk wr w.heap.size sb 25
 ty : Blk wr (w.heap.size + 1) tb 93
theorem WInv.below {w W W' : World} {sb tb : Array Value} (h : WInv w W sb tb) (hb : Below W.heap.size W W') : WInv w W' sb tb := ⟨h.bel.trans (hb.mono h.bel.size), h.sig.below hb h.sig.lt, h.ty.below hb h.ty.lt⟩
set_option maxRecDepth 100000 in
set_option maxHeartbeats 4000000 in
theorem rwhole_any : ∀ (N : Nat) (s : Sig) (ss us : List Value) (t : Ty) (p : Int) (w : World), t.size ≤ N → t.size ≤ 1048576 → s.datas.length ≤ 1048576 → t.ok = true → Rds w w.heap.size ss s.d → Rds w w.heap.size us t.d →
  Calls Tryz.prog 49 #[.agg ss.toArray, .agg us.toArray, .int .i64 p] w fun e w' => e = .returned (.bool (t.whole s p)) ∧ Below w.heap.size w w' := by
 intro N
 induction N with
 | zero => intro s ss us t p w h; have := size_pos t; omega
 | succ N ih =>
   intro s ss us t p w hN hs hds hok hss hus
   have IH := Lib.hid ih
   have HSS := Lib.hid hss
   have HOKK := Lib.hid (fun x hx => Ty.ok_kid hok x hx)
   have hsz := size_eq t
   have hlen : t.l.length ≤ 1048576 := by have := sizes_len t.l; omega
   have HE := Lib.hid (Ty.whole_eq s p t)
   have his := Ty.ok_is hok
   clear ih hok
   obtain ⟨v4, rfl, h4, -⟩ := Ty.cells hus
   obtain ⟨v0, v1, rfl, g0, g1⟩ := Sig.cells hss
   obtain ⟨l, hl⟩ : ∃ l, t.l = l := ⟨_, rfl⟩
   obtain ⟨k, hk⟩ : ∃ l, t.kind = l := ⟨_, rfl⟩
   obtain ⟨n, hn⟩ : ∃ l, t.n = l := ⟨_, rfl⟩
   obtain ⟨v, hv⟩ : ∃ l, t.v = l := ⟨_, rfl⟩
   obtain ⟨c, hc⟩ : ∃ l, t.c = l := ⟨_, rfl⟩
   rw [hl] at h4 hsz hlen HOKK
   rw [hl, hk, hn, hc] at HE
   rw [hl, hk, hn, hv, hc] at his
   simp only [hl, hk, hn, hv, hc]
   have H4 := Lib.hid h4
   obtain ⟨a, cap, rfl⟩ := h4.slice_inv
   have G0 := Lib.hid g0
   obtain ⟨a0, cap0, rfl⟩ := g0.slice_inv
   obtain ⟨a1, cap1, rfl⟩ := g1.slice_inv
   have HS := Lib.hid hsz
   simp only [isT, decide_eq_true_eq] at his
   obtain ⟨-, -, n0, -⟩ := his
   clear hsz hus hss g0 g1 h4 hl hk hn hv hc
   go_enter Tryz.func49, Tryz.ntmps49
   go_upto_block 0 with fail
   obtain ⟨sb, hsb⟩ : ∃ b : Array Value, #[.slice a0 s.datas.length cap0, .slice a1 s.cons.length cap1] = b := ⟨_, rfl⟩
   obtain ⟨tb, htb⟩ : ∃ b : Array Value, #[.int .u8 k, .int .i64 n, .int .i64 v, .int .u8 c, .slice a l.length cap] = b := ⟨_, rfl⟩
   have s0 : sb[0]? = some (.slice a0 s.datas.length cap0) := by rw [← hsb]; rfl
   have s1 : sb[1]? = some (.slice a1 s.cons.length cap1) := by rw [← hsb]; rfl
   have b1 : tb[1]? = some (.int .i64 n) := by rw [← htb]; rfl
   have b3 : tb[3]? = some (.int .u8 c) := by rw [← htb]; rfl
   have b4 : tb[4]? = some (.slice a l.length cap) := by rw [← htb]; rfl
   obtain ⟨W0, hW0⟩ : ∃ W, (w.alloc (.cells sb 25)).alloc (.cells tb 93) = W := ⟨_, rfl⟩
   have hw0 : WInv w W0 sb tb := by
    rw [← hW0]
    exact ⟨by (repeat (with_reducible first | exact Below.refl _ _ | refine Below.setCell ?_ ?_ _ | refine Below.alloc ?_ ?_ _ | refine Below.drewN ?_ _ | refine Below.drew ?_)) <;> first | omega | (simp; omega) | (simp; done), (Blk.new w _ _ _ rfl).alloc _, Blk.new _ _ _ _ (by simp)⟩
   rw [hsb, htb, hW0]
   clear hsb htb hW0
   go_cut [7] (fun q wx => q = .bool (wok s p k n c l.length) ∧ Hid (WInv w wx sb tb))
   case first => as_aux_lemma =>
    have x1 : W0.cell? ⟨w.heap.size + 1, 1, none⟩ = some (.int .i64 n) := (hw0.ty.cell 1).trans b1
    have x3 : W0.cell? ⟨w.heap.size + 1, 3, none⟩ = some (.int .u8 c) := (hw0.ty.cell 3).trans b3
    have x4 : W0.cell? ⟨w.heap.size + 1, 4, none⟩ = some (.slice a l.length cap) := (hw0.ty.cell 4).trans b4
    have y0 : W0.cell? ⟨w.heap.size, 0, none⟩ = some (.slice a0 s.datas.length cap0) := (hw0.sig.cell 0).trans s0
    have hbel := hw0.bel
    have HW0 := Lib.hid hw0
    clear b1 b3 b4 s0 s1 hw0 HE
    go_wp2_with fail
    ·have hk : k = 1 := by simpa using ‹(k == 1) = true›
     go_meet
     refine ⟨congrArg Value.bool ?_, HW0⟩
     rw [hk, Bool.eq_iff_iff]
     simp [wok]
    ·have hk : k = 7 := by simpa using ‹(k == 7) = true›
     go_meet
     refine ⟨congrArg Value.bool ?_, HW0⟩
     rw [hk, Bool.eq_iff_iff]
     simp [wok]
    ·have hk : k = 8 := by simpa using ‹(k == 8) = true›
     have K8 := Lib.hid hk
     clear hk
     obtain ⟨m, rfl⟩ := Int.eq_ofNat_of_zero_le n0
     by_cases hlt : m < s.datas.length
     ·obtain ⟨b, off, cap', us, hv, hb, hc, hcell, hus⟩ := G0.out.elem Data.d_len rfl m hlt (by omega)
      injection hv with ha hn' hcap
      subst ha hcap
      obtain ⟨d2, rfl, _, _, q2⟩ := Data.cells hus
      have hpar : parOf s m = (s.datas[m]).params := by simp [parOf, hlt]
      have c1 := (hbel.cell (p := ⟨b, off + m * 3 + 1, none⟩) hb).trans (hcell 1 _ rfl)
      rw [← hpar] at c1
      obtain ⟨P, hP⟩ : ∃ P, parOf s m = P := ⟨_, rfl⟩
      rw [hP] at c1
      have HF := Lib.hid (show wok s p k (m : Int) c l.length = ((l.length : Int) == P) by rw [K8.out, Bool.eq_iff_iff]; simp [wok, hlt, hP])
      have t1 : decide ((m : Int) < (s.datas.length : Int)) = true := decide_eq_true (by omega)
      have i1 : (m : Int) < (s.datas.length : Int) := by omega
      have i2 : (0 : Int) ≤ (m : Int) := by omega
      clear hcell hus q2 hP hpar
      go_quiet (fail)
      go_wp2_with fail
      go_meet
      exact ⟨by rw [HF.out], Lib.hid (HW0.out.below (Below.drewN (Below.refl _ _) _))⟩
     ·have t1 : decide ((m : Int) < (s.datas.length : Int)) = false := decide_eq_false (by omega)
      have HF := Lib.hid (show wok s p k (m : Int) c l.length = false by rw [K8.out]; simp [wok, hlt])
      go_quiet (fail)
      go_wp2_with fail
      go_meet
      exact ⟨by rw [HF.out], Lib.hid (HW0.out.below (Below.drewN (Below.refl _ _) _))⟩
    ·have k1 : k ≠ 1 := by simpa using ‹(k == 1) = false›
     have k7 : k ≠ 7 := by simpa using ‹(k == 7) = false›
     have k8 : k ≠ 8 := by simpa using ‹(k == 8) = false›
     go_meet
     refine ⟨congrArg Value.bool ?_, HW0⟩
     simp [wok, k1, k7, k8]
   case rest => as_aux_lemma =>
    obtain ⟨rfl, HB0⟩ := hcut
    obtain ⟨q, hq⟩ : ∃ q, wok s p k n c l.length = q := ⟨_, rfl⟩
    rw [hq] at HE ⊢
    have HOK0 := Lib.hid (show q = (q && !((l.take 0).any fun x => !x.whole s p)) by simp)
    clear hq hw0 b1 b3 G0
    go_wp2_with fail
    go_loopw [8, 7] (fun u u4 wr => ∃ (i : Nat) (ok : Bool), i ≤ l.length ∧ u = .int .i64 i ∧ u4 = .bool ok ∧ Hid (ok = (q && !((l.take i).any fun x => !x.whole s p))) ∧ Hid (WInv w wr sb tb)) (fun u _ _ => l.length - (intOf u).toNat)
    case atStart => exact ⟨0, q, Nat.zero_le _, rfl, rfl, HOK0, HB0⟩
    case round =>
     obtain ⟨i, ok, hil, rfl, rfl, HOK, HB⟩ := hrel
     have hbel := HB.out.bel
     have hsz0 := hbel.size
     have x4 : wr.cell? ⟨w.heap.size + 1, 4, none⟩ = some (.slice a l.length cap) := (HB.out.ty.cell 4).trans b4
     have y0 : wr.cell? ⟨w.heap.size, 0, none⟩ = some (.slice a0 s.datas.length cap0) := (HB.out.sig.cell 0).trans s0
     have y1 : wr.cell? ⟨w.heap.size, 1, none⟩ = some (.slice a1 s.cons.length cap1) := (HB.out.sig.cell 1).trans s1
     cases ok
     ·have HF := Lib.hid (show t.whole s p = false by
       rw [HE.out]
       have := HOK.out
       revert this
       cases q
       ·simp
       ·intro h
        have h' : (l.take i).any (fun x => !x.whole s p) = true := by simpa using h.symm
        have : l.any (fun x => !x.whole s p) = true := by
         rw [← List.take_append_drop i l, List.any_append, h']; rfl
        simp [this])
      by_cases hlt : i < l.length
      ·have e1 : decide ((i : Int) < (l.length : Int)) = true := decide_eq_true (by omega)
       go_wp2
       go_ret
       exact ⟨ret_b HF.out.symm, hbel⟩
      ·have e1 : decide ((i : Int) < (l.length : Int)) = false := decide_eq_false (by omega)
       go_wp2
       go_ret
       exact ⟨ret_b HF.out.symm, hbel⟩
     ·by_cases hlt : i < l.length
      ·have e1 : decide ((i : Int) < (l.length : Int)) = true := decide_eq_true (by omega)
       have HT := Lib.hid (show (l.take (i + 1)).any (fun x => !x.whole s p) = ((l.take i).any (fun x => !x.whole s p) || !l[i].whole s p) by rw [List.take_succ_eq_append_getElem hlt, List.any_append]; simp)
       have hqa : q = true ∧ (l.take i).any (fun x => !x.whole s p) = false := by
        have := HOK.out
        revert this
        cases q <;> cases (l.take i).any (fun x => !x.whole s p) <;> simp
       have HQA := Lib.hid hqa
       obtain ⟨b, off, cap', us, hv, hb, hc, hcell, hus⟩ := H4.out.elem Ty.d_len rfl i hlt (by omega)
       injection hv with ha hn' hcap
       subst ha hcap
       have hsub : l[i].size ≤ N ∧ l[i].size ≤ 1048576 := by have := sizes_get l i hlt; have := HS.out; omega
       have HC := Lib.hid (fun (W : World) (hW : Below w.heap.size w W) => IH.out s _ us l[i] p W hsub.1 hsub.2 hds (HOKK.out _ (List.getElem_mem _)) ((HSS.out.keep hW).mono hW.size) ((hus.keep hW).mono hW.size))
       obtain ⟨v4', hus', h4', -, -, -, -⟩ := Ty.cells hus
       obtain ⟨a2, cap2, rfl⟩ := h4'.slice_inv
       subst hus'
       have c0 := (hbel.cell (p := ⟨b, off + i * 5, none⟩) hb).trans (hcell 0 _ rfl)
       have c1 := (hbel.cell (p := ⟨b, off + i * 5 + 1, none⟩) hb).trans (hcell 1 _ rfl)
       have c2 := (hbel.cell (p := ⟨b, off + i * 5 + 2, none⟩) hb).trans (hcell 2 _ rfl)
       have c3 := (hbel.cell (p := ⟨b, off + i * 5 + 3, none⟩) hb).trans (hcell 3 _ rfl)
       have c4 := (hbel.cell (p := ⟨b, off + i * 5 + 4, none⟩) hb).trans (hcell 4 _ rfl)
       have i1 : (i : Int) < (l.length : Int) := by omega
       have i2 : (0 : Int) ≤ (i : Int) := by omega
       clear hcell hus h4' hqa hsub
       go_upto_region 12 with fail
       obtain ⟨r, hr⟩ : ∃ r, l[i].whole s p = r := ⟨_, rfl⟩
       have HF := Lib.hid (show r = (q && !((l.take (i + 1)).any fun x => !x.whole s p)) by rw [HT.out, HQA.out.1, HQA.out.2, hr]; simp)
       rw [hr] at HC
       clear hr
       refine wp_region_segs [7] (by kernel_rfl) (by kernel_rfl) ?_
       rw [wpSegs]
       simp only [List.take_succ_cons, List.take_zero, List.drop_succ_cons, List.drop_zero]
       repeat (go_big_quiet_step (fail))
       refine wpQuiet_nil ?_
       rintro _ ⟨nq, rfl⟩
       go_wp2_with (go_at_call 49; refine (HC.out _ (Below.drewN hbel _)).mono ?_; rintro e w2 ⟨rfl, hb2⟩)
       have HI2 := Lib.hid (HB.out.below (Below.trans (Below.drewN (Below.refl _ _) _) hb2))
       show wpSegs _ _ _ _ _ _ _
       rw [wpSegs]
       repeat (go_big_quiet_step (fail))
       refine wpQuiet_nil ?_
       rintro _ ⟨nq2, rfl⟩
       go_wp2
       go_roundw
       case rel => exact ⟨i + 1, r, hlt, by go_num, rfl, HF, Lib.hid (HI2.out.below (Below.drewN (Below.refl _ _) _))⟩
       case measure => simp [intOf]; omega
      ·have HF := Lib.hid (show true = t.whole s p by rw [HE.out, HOK.out, List.take_of_length_le (by omega)])
       have e1 : decide ((i : Int) < (l.length : Int)) = false := decide_eq_false (by omega)
       go_wp2
       go_ret
       exact ⟨ret_b HF.out, hbel⟩
end Go.Proofs.YtdhodaefgliphaaGreatDoor
