/- Contracts: show.Depth with its closures. -/
import Derived.Test.YtnneooidkbhbeaaGreatDoorShD
set_option linter.unusedVariables false
set_option linter.unusedSimpArgs false
namespace Go.Proofs.YtnneooidkbhbeaaGreatDoor
open Go.RowKit

def SField.depth (f : SField) : Nat := f.t.depth
def SConD.depth (c : SConD) : Nat := maxL SField.depth c.fields
def SDecl.depth (d : SDecl) : Nat := if d.kind = 2 then d.e.depth else if d.kind = 1 then maxL SConD.depth d.cons else 0
theorem enters_Depth1 : Enters Tryz.prog 39 := enters Tryz.func39 (by kernel_rfl) rfl
theorem enters_Depth11 : Enters Tryz.prog 41 := enters Tryz.func41 (by kernel_rfl) rfl
set_option maxHeartbeats 1000000 in
theorem depthField_any (x : SField) (us : List Value) (w : World) (hx : x.t.size ≤ 1048576) (hus : Rds w w.heap.size us x.d) :
    Calls Tryz.prog 41 #[.agg us.toArray] w fun e w' => e = .returned (.int .i64 x.depth) ∧ Below w.heap.size w w' := by
  obtain ⟨ut, rfl, ht, -⟩ := SField.cells hus
  have HC := Lib.hid (fun (W : World) (hW : Below w.heap.size w W) => depthTy_any _ x.t ut W (Nat.le_refl _) hx ((ht.keep hW).mono hW.size))
  obtain ⟨v6, rfl, h6, -⟩ := STy.cells ht
  obtain ⟨a, c, rfl⟩ := h6.slice_inv
  clear h6 ht hus
  go_enter Tryz.func41, Tryz.ntmps41
  go_wp2_with fail
  refine (HC.out _ (by (repeat (with_reducible first | exact Below.refl _ _ | refine Below.setCell ?_ ?_ _ | refine Below.alloc ?_ ?_ _ | refine Below.drewN ?_ _ | refine Below.drew ?_)) <;> first | omega | (simp; omega) | (simp; done))).mono ?_
  rintro e w2 ⟨rfl, hb2⟩
  have hfin : Below w.heap.size w w2 := Below.trans (by (repeat (with_reducible first | exact Below.refl _ _ | refine Below.setCell ?_ ?_ _ | refine Below.alloc ?_ ?_ _ | refine Below.drewN ?_ _ | refine Below.drew ?_)) <;> first | omega | (simp; omega) | (simp; done)) (hb2.mono (by first | omega | (simp; omega) | (simp; done)))
  clear hb2
  go_wp2
  go_ret
  exact ⟨rfl, hfin⟩
set_option maxHeartbeats 1000000 in
theorem depthCon_any (x : SConD) (us : List Value) (w : World) (hx : x.Small) (hus : Rds w w.heap.size us x.d) :
    Calls Tryz.prog 39 #[.agg us.toArray] w fun e w' => e = .returned (.int .i64 x.depth) ∧ Below w.heap.size w w' := by
  obtain ⟨v6, rfl, h6, -⟩ := SConD.cells hus
  have HA := Lib.hid (fun (W : World) (hW : Below w.heap.size w W) => deepest_SField x.fields v6 41 #[] SField.depth W hx.nf enters_Depth11 ((h6.keep hW).mono hW.size)
    (fun i h W' us hW' hu => by
      have := depthField_any x.fields[i] us W' (hx.f i h) ((hu.keep hW').mono hW'.size)
      simpa using this))
  obtain ⟨a, c, rfl⟩ := h6.slice_inv
  obtain ⟨B, hB⟩ : ∃ B, maxL SField.depth x.fields = B := ⟨_, rfl⟩
  rw [hB] at HA
  have HM := Lib.hid (show x.depth = B from hB)
  clear hus h6 hB hx
  go_enter Tryz.func39, Tryz.ntmps39
  go_wp2_with fail
  refine (HA.out _ (by (repeat (with_reducible first | exact Below.refl _ _ | refine Below.setCell ?_ ?_ _ | refine Below.alloc ?_ ?_ _ | refine Below.drewN ?_ _ | refine Below.drew ?_)) <;> first | omega | (simp; omega) | (simp; done))).mono ?_
  rintro e w2 ⟨rfl, hb2⟩
  have hfin : Below w.heap.size w w2 := Below.trans (by (repeat (with_reducible first | exact Below.refl _ _ | refine Below.setCell ?_ ?_ _ | refine Below.alloc ?_ ?_ _ | refine Below.drewN ?_ _ | refine Below.drew ?_)) <;> first | omega | (simp; omega) | (simp; done)) (hb2.mono (by first | omega | (simp; omega) | (simp; done)))
  clear hb2
  go_wp2
  go_ret
  exact ⟨ret_i (by rw [HM.out]), hfin⟩
set_option maxHeartbeats 2000000 in
theorem depth_any (x : SDecl) (us : List Value) (w : World) (hx : x.Small) (hus : Rds w w.heap.size us x.d) :
    Calls Tryz.prog 14 #[.agg us.toArray] w fun e w' => e = .returned (.int .i64 x.depth) ∧ Below w.heap.size w w' := by
  obtain ⟨v5, v6, ue, rfl, h5, h6, he, -, -⟩ := SDecl.cells hus
  have HEX := Lib.hid (fun (W : World) (hW : Below w.heap.size w W) => depthExpr_any _ x.e ue W (Nat.le_refl _) hx.e ((he.keep hW).mono hW.size))
  have HCN := Lib.hid (fun (W : World) (hW : Below w.heap.size w W) => deepest_SConD x.cons v6 39 #[] SConD.depth W hx.nc enters_Depth1 ((h6.keep hW).mono hW.size)
    (fun i h W' us hW' hu => by
      have := depthCon_any x.cons[i] us W' (hx.c i h) ((hu.keep hW').mono hW'.size)
      simpa using this))
  obtain ⟨a5, c5, rfl⟩ := h5.slice_inv
  obtain ⟨a, c, rfl⟩ := h6.slice_inv
  obtain ⟨v6e, v7e, rfl, k6e, k7e, -⟩ := SExpr.cells he
  obtain ⟨a6e, d6e, rfl⟩ := k6e.slice_inv
  obtain ⟨a7e, d7e, rfl⟩ := k7e.slice_inv
  have HE := Lib.hid (show x.depth = if x.kind = 2 then x.e.depth else if x.kind = 1 then maxL SConD.depth x.cons else 0 from rfl)
  obtain ⟨B, hB⟩ : ∃ B, maxL SConD.depth x.cons = B := ⟨_, rfl⟩
  rw [hB] at HCN HE
  obtain ⟨xk, hxk⟩ : ∃ z, x.kind = z := ⟨_, rfl⟩
  rw [hxk] at HE ⊢
  obtain ⟨S, hS⟩ : ∃ z, x.depth = z := ⟨_, rfl⟩
  rw [hS] at HE ⊢
  clear hus h5 h6 he k6e k7e hB hx hxk hS
  by_cases k2 : xk = 2
  · have t2 : (xk == 2) = true := by simp [k2]
    have HM := Lib.hid (show S = x.e.depth by rw [HE.out, if_pos k2])
    clear k2 HE
    go_enter Tryz.func14, Tryz.ntmps14
    go_wp2_with fail
    refine (HEX.out _ (by (repeat (with_reducible first | exact Below.refl _ _ | refine Below.setCell ?_ ?_ _ | refine Below.alloc ?_ ?_ _ | refine Below.drewN ?_ _ | refine Below.drew ?_)) <;> first | omega | (simp; omega) | (simp; done))).mono ?_
    rintro e w2 ⟨rfl, hb2⟩
    have hfin : Below w.heap.size w w2 := Below.trans (by (repeat (with_reducible first | exact Below.refl _ _ | refine Below.setCell ?_ ?_ _ | refine Below.alloc ?_ ?_ _ | refine Below.drewN ?_ _ | refine Below.drew ?_)) <;> first | omega | (simp; omega) | (simp; done)) (hb2.mono (by first | omega | (simp; omega) | (simp; done)))
    clear hb2
    go_wp2
    go_ret
    exact ⟨ret_i (by rw [HM.out]), hfin⟩
  · have t2 : (xk == 2) = false := by simpa using k2
    by_cases k1 : xk = 1
    · have t1 : (xk == 1) = true := by simp [k1]
      have HM := Lib.hid (show S = B by rw [HE.out, if_neg k2, if_pos k1])
      clear k2 k1 HE
      go_enter Tryz.func14, Tryz.ntmps14
      go_wp2_with fail
      refine (HCN.out _ (by (repeat (with_reducible first | exact Below.refl _ _ | refine Below.setCell ?_ ?_ _ | refine Below.alloc ?_ ?_ _ | refine Below.drewN ?_ _ | refine Below.drew ?_)) <;> first | omega | (simp; omega) | (simp; done))).mono ?_
      rintro e w2 ⟨rfl, hb2⟩
      have hfin : Below w.heap.size w w2 := Below.trans (by (repeat (with_reducible first | exact Below.refl _ _ | refine Below.setCell ?_ ?_ _ | refine Below.alloc ?_ ?_ _ | refine Below.drewN ?_ _ | refine Below.drew ?_)) <;> first | omega | (simp; omega) | (simp; done)) (hb2.mono (by first | omega | (simp; omega) | (simp; done)))
      clear hb2
      go_wp2
      go_ret
      exact ⟨ret_i (by rw [HM.out]), hfin⟩
    · have t1 : (xk == 1) = false := by simpa using k1
      have HM := Lib.hid (show S = 0 by rw [HE.out, if_neg k2, if_neg k1])
      clear k2 k1 HE
      go_enter Tryz.func14, Tryz.ntmps14
      go_wp2
      go_ret
      exact ⟨ret_i (by rw [HM.out]; rfl), by (repeat (with_reducible first | exact Below.refl _ _ | refine Below.setCell ?_ ?_ _ | refine Below.alloc ?_ ?_ _ | refine Below.drewN ?_ _ | refine Below.drew ?_)) <;> first | omega | (simp; omega) | (simp; done)⟩
end Go.Proofs.YtnneooidkbhbeaaGreatDoor
/- Contracts of the document's answer for layer 11: how deep. Written by gen_shx.py. -/
namespace Go.Proofs.YtnneooidkbhbeaaGreatDoor
open Go.RowKit

theorem keepB {C : World → Prop} {W0 : World} (f : ∀ V, Below W0.heap.size W0 V → C V) {W W' : World} (h : C W ∧ Below W0.heap.size W0 W) (hb : Below W.heap.size W W') : C W' ∧ Below W0.heap.size W0 W' :=
  have h2 := h.2.trans (hb.mono h.2.size)
  ⟨f _ h2, h2⟩
theorem keepB0 {C : World → Prop} {W0 W : World} (f : ∀ V, Below W0.heap.size W0 V → C V) (hb : Below W0.heap.size W0 W) : C W ∧ Below W0.heap.size W0 W := ⟨f _ hb, hb⟩
set_option maxHeartbeats 1000000 in
theorem big_any (a b : Nat) (w : World) : Calls Tryz.prog 43 #[.int .i64 a, .int .i64 b] w fun e w' => e = .returned (.int .i64 (max a b : Nat)) ∧ w' = w := by
  by_cases h : b < a
  · have e1 : decide ((b : Int) < (a : Int)) = true := decide_eq_true (by omega)
    have e2 : decide (b < a) = true := decide_eq_true h
    have HM := Lib.hid (show max a b = a by omega)
    clear h
    go_enter Tryz.func43, Tryz.ntmps43
    go_wp2
    go_ret
    exact ⟨ret_i (by rw [HM.out]), rfl⟩
  · have e1 : decide ((b : Int) < (a : Int)) = false := decide_eq_false (by omega)
    have e2 : decide (b < a) = false := decide_eq_false h
    have HM := Lib.hid (show max a b = b by omega)
    clear h
    go_enter Tryz.func43, Tryz.ntmps43
    go_wp2
    go_ret
    exact ⟨ret_i (by rw [HM.out]), rfl⟩
structure OneB (w wr : World) (bx : Array Value) (t : TypeId) : Prop where
  bel : Below w.heap.size w wr
  x : Blk wr w.heap.size bx t
theorem OneB.below {w W W' : World} {bx : Array Value} {t : TypeId} (h : OneB w W bx t) (hb : Below W.heap.size W W') : OneB w W' bx t := ⟨h.bel.trans (hb.mono h.bel.size), h.x.below hb h.x.lt⟩
theorem OneB.mk' (w : World) (bx : Array Value) (t : TypeId) : OneB w (w.alloc (.cells bx t)) bx t := ⟨by (repeat (with_reducible first | exact Below.refl _ _ | refine Below.setCell ?_ ?_ _ | refine Below.alloc ?_ ?_ _ | refine Below.drewN ?_ _ | refine Below.drew ?_)) <;> first | omega | (simp; omega) | (simp; done), Blk.new w _ _ _ rfl⟩

set_option maxRecDepth 100000 in
set_option maxHeartbeats 4000000 in
theorem rdepthPat_any : ∀ (N : Nat) (x : SPat) (us : List Value) (w : World), x.size ≤ N → x.size ≤ 1048576 → Rds w w.heap.size us x.d →
    Calls Tryz.prog 104 #[.agg us.toArray] w fun e w' => e = .returned (.int .i64 x.depth) ∧ Below w.heap.size w w' := by
  intro N
  induction N with
  | zero => intro x us w h; have := x.size_pos; omega
  | succ N ih =>
    intro x us w hN hs hus
    have IH := Lib.hid ih
    clear ih
    obtain ⟨v6, rfl, h6, -⟩ := SPat.cells hus
    have HE := Lib.hid (x.depth_eq)
    have hsz := x.size_eq
    have hds := x.depth_size
    have hlen := SPat.sizes_len x.l
    have hN2 : SPat.sizes x.l ≤ N ∧ SPat.sizes x.l ≤ 1048576 := by omega
    have H6 := Lib.hid h6
    obtain ⟨a, c, rfl⟩ := h6.slice_inv
    obtain ⟨S, hS⟩ : ∃ z, x.depth = z := ⟨_, rfl⟩
    rw [hS] at HE hds ⊢
    have HS := Lib.hid (show S ≤ 1048576 by omega)
    obtain ⟨xl, hxl⟩ : ∃ z, x.l = z := ⟨_, rfl⟩
    rw [hxl] at HE H6 hN2 hlen ⊢
    have hl6 : xl.length ≤ 1048576 := by omega
    clear hS hxl hus h6 hsz hlen hN hs hds
    go_enter Tryz.func104, Tryz.ntmps104
    go_wp2
    obtain ⟨bx, hbx⟩ : ∃ b : Array Value, #[.int .u8 x.kind, .string x.s, .int .i64 x.n, .int .i64 x.at_, .int .i64 x.line, .int .i64 x.col, .slice a xl.length c] = b := ⟨_, rfl⟩
    have b6 : bx[6]? = some (.slice a xl.length c) := by rw [← hbx]; rfl
    have HB0 := Lib.hid (OneB.mk' w bx 69)
    obtain ⟨W0, hW0⟩ : ∃ W, w.alloc (.cells bx 69) = W := ⟨_, rfl⟩
    rw [hW0] at HB0
    rw [hbx, hW0]
    clear hbx hW0
    go_loopw [3, 4] (fun ua uk wr => ∃ k acc : Nat, k ≤ xl.length ∧ uk = .int .i64 k ∧ ua = .int .i64 acc ∧ acc ≤ 1048576 ∧ Hid (maxL SPat.depth xl = max acc (maxL SPat.depth (xl.drop k))) ∧ Hid (OneB w wr bx 69)) (fun _ u _ => xl.length - (intOf u).toNat)
    case atStart => exact ⟨0, 0, Nat.zero_le _, rfl, rfl, Nat.zero_le _, Lib.hid (by simp), HB0⟩
    case round =>
      obtain ⟨wo, rfl⟩ : ∃ z, z = wr := ⟨_, rfl⟩
      obtain ⟨k, acc, hk, rfl, rfl, hacc, HK, HB⟩ := hrel
      have hbel := HB.out.bel
      have hszo := hbel.size
      have x6 := (HB.out.x.cell 6).trans b6
      by_cases hltx : k < xl.length
      · have hdep := HS.out
        obtain ⟨blx, offx, cpx, usx, hvx, hbx, hcx, hcellx, hux⟩ := H6.out.elem SPat.d_len rfl k hltx (by omega)
        injection hvx with hax hnx hcapx
        subst hax hcapx
        have HC := Lib.hid (fun (W : World) (hW : Below w.heap.size w W) => IH.out xl[k] usx W (by have := SPat.sizes_get xl k hltx; omega) (by have := SPat.sizes_get xl k hltx; omega) ((hux.keep hW).mono hW.size))
        have hpd : xl[k].depth ≤ 1048576 := by have := SPat.sizes_get xl k hltx; have := xl[k].depth_size; omega
        have HK1 := Lib.hid (HK.out.trans (by rw [maxL_drop SPat.depth xl k hltx]))
        obtain ⟨pz, hpz⟩ : ∃ z, xl[k].depth = z := ⟨_, rfl⟩
        rw [hpz] at HC HK1 hpd
        obtain ⟨v6x, rfl, g6x, -⟩ := SPat.cells hux
        obtain ⟨a6x, d6x, rfl⟩ := g6x.slice_inv
        have cx0 := (hbel.cell (p := ⟨blx, offx + k * 7, none⟩) hbx).trans (hcellx 0 _ rfl)
        have cx1 := (hbel.cell (p := ⟨blx, offx + k * 7 + 1, none⟩) hbx).trans (hcellx 1 _ rfl)
        have cx2 := (hbel.cell (p := ⟨blx, offx + k * 7 + 2, none⟩) hbx).trans (hcellx 2 _ rfl)
        have cx3 := (hbel.cell (p := ⟨blx, offx + k * 7 + 3, none⟩) hbx).trans (hcellx 3 _ rfl)
        have cx4 := (hbel.cell (p := ⟨blx, offx + k * 7 + 4, none⟩) hbx).trans (hcellx 4 _ rfl)
        have cx5 := (hbel.cell (p := ⟨blx, offx + k * 7 + 5, none⟩) hbx).trans (hcellx 5 _ rfl)
        have cx6 := (hbel.cell (p := ⟨blx, offx + k * 7 + 6, none⟩) hbx).trans (hcellx 6 _ rfl)
        have i0 : (0 : Int) ≤ (k : Int) := by omega
        have i1 : (k : Int) < (xl.length : Int) := by omega
        have e1 : decide ((k : Int) < (xl.length : Int)) = true := decide_eq_true (by omega)
        clear hcellx hux hpz HK hdep g6x
        go_wp2_with fail
        refine (HC.out _ hbel).mono ?_
        rintro e w2 ⟨rfl, hb2⟩
        have HB2 := Lib.hid (HB.out.below hb2)
        have HK2 := Lib.hid (show maxL SPat.depth xl = max (max acc pz) (maxL SPat.depth (xl.drop (k + 1))) by rw [HK1.out]; omega)
        clear cx0 cx1 cx2 cx3 cx4 cx5 cx6 hb2 HK1
        go_wp2_with fail
        refine (big_any acc pz _).mono ?_
        rintro e w9 ⟨rfl, rfl⟩
        go_wp2
        go_roundw
        case rel => exact ⟨k + 1, max acc pz, hltx, by go_num, rfl, by omega, HK2, HB2⟩
        case measure => simp [intOf]; omega
      · have e1 : decide ((k : Int) < (xl.length : Int)) = false := decide_eq_false (by omega)
        have e1' : decide (k < xl.length) = false := decide_eq_false (by omega)
        have HKE := Lib.hid (show maxL SPat.depth xl = acc by rw [HK.out, maxL_end SPat.depth xl k (by omega)]; omega)
        clear hk hltx HK
        have HF := Lib.hid (show 1 + acc = S by rw [HE.out, HKE.out])
        go_wp2
        go_ret
        exact ⟨ret_i (by rw [← HF.out]; omega), hbel⟩
set_option maxRecDepth 100000 in
set_option maxHeartbeats 4000000 in
theorem rdepthTy_any : ∀ (N : Nat) (x : STy) (us : List Value) (w : World), x.size ≤ N → x.size ≤ 1048576 → Rds w w.heap.size us x.d →
    Calls Tryz.prog 44 #[.agg us.toArray] w fun e w' => e = .returned (.int .i64 x.depth) ∧ Below w.heap.size w w' := by
  intro N
  induction N with
  | zero => intro x us w h; have := x.size_pos; omega
  | succ N ih =>
    intro x us w hN hs hus
    have IH := Lib.hid ih
    clear ih
    obtain ⟨v6, rfl, h6, -⟩ := STy.cells hus
    have HE := Lib.hid (x.depth_eq)
    have hsz := x.size_eq
    have hds := x.depth_size
    have hlen := STy.sizes_len x.l
    have hN2 : STy.sizes x.l ≤ N ∧ STy.sizes x.l ≤ 1048576 := by omega
    have H6 := Lib.hid h6
    obtain ⟨a, c, rfl⟩ := h6.slice_inv
    obtain ⟨S, hS⟩ : ∃ z, x.depth = z := ⟨_, rfl⟩
    rw [hS] at HE hds ⊢
    have HS := Lib.hid (show S ≤ 1048576 by omega)
    obtain ⟨xl, hxl⟩ : ∃ z, x.l = z := ⟨_, rfl⟩
    rw [hxl] at HE H6 hN2 hlen ⊢
    have hl6 : xl.length ≤ 1048576 := by omega
    clear hS hxl hus h6 hsz hlen hN hs hds
    go_enter Tryz.func44, Tryz.ntmps44
    go_wp2
    obtain ⟨bx, hbx⟩ : ∃ b : Array Value, #[.int .u8 x.kind, .string x.s, .int .u8 x.m, .int .i64 x.at_, .int .i64 x.line, .int .i64 x.col, .slice a xl.length c] = b := ⟨_, rfl⟩
    have b6 : bx[6]? = some (.slice a xl.length c) := by rw [← hbx]; rfl
    have HB0 := Lib.hid (OneB.mk' w bx 59)
    obtain ⟨W0, hW0⟩ : ∃ W, w.alloc (.cells bx 59) = W := ⟨_, rfl⟩
    rw [hW0] at HB0
    rw [hbx, hW0]
    clear hbx hW0
    go_loopw [3, 4] (fun ua uk wr => ∃ k acc : Nat, k ≤ xl.length ∧ uk = .int .i64 k ∧ ua = .int .i64 acc ∧ acc ≤ 1048576 ∧ Hid (maxL STy.depth xl = max acc (maxL STy.depth (xl.drop k))) ∧ Hid (OneB w wr bx 59)) (fun _ u _ => xl.length - (intOf u).toNat)
    case atStart => exact ⟨0, 0, Nat.zero_le _, rfl, rfl, Nat.zero_le _, Lib.hid (by simp), HB0⟩
    case round =>
      obtain ⟨wo, rfl⟩ : ∃ z, z = wr := ⟨_, rfl⟩
      obtain ⟨k, acc, hk, rfl, rfl, hacc, HK, HB⟩ := hrel
      have hbel := HB.out.bel
      have hszo := hbel.size
      have x6 := (HB.out.x.cell 6).trans b6
      by_cases hltx : k < xl.length
      · have hdep := HS.out
        obtain ⟨blx, offx, cpx, usx, hvx, hbx, hcx, hcellx, hux⟩ := H6.out.elem STy.d_len rfl k hltx (by omega)
        injection hvx with hax hnx hcapx
        subst hax hcapx
        have HC := Lib.hid (fun (W : World) (hW : Below w.heap.size w W) => IH.out xl[k] usx W (by have := STy.sizes_get xl k hltx; omega) (by have := STy.sizes_get xl k hltx; omega) ((hux.keep hW).mono hW.size))
        have hpd : xl[k].depth ≤ 1048576 := by have := STy.sizes_get xl k hltx; have := xl[k].depth_size; omega
        have HK1 := Lib.hid (HK.out.trans (by rw [maxL_drop STy.depth xl k hltx]))
        obtain ⟨pz, hpz⟩ : ∃ z, xl[k].depth = z := ⟨_, rfl⟩
        rw [hpz] at HC HK1 hpd
        obtain ⟨v6x, rfl, g6x, -⟩ := STy.cells hux
        obtain ⟨a6x, d6x, rfl⟩ := g6x.slice_inv
        have cx0 := (hbel.cell (p := ⟨blx, offx + k * 7, none⟩) hbx).trans (hcellx 0 _ rfl)
        have cx1 := (hbel.cell (p := ⟨blx, offx + k * 7 + 1, none⟩) hbx).trans (hcellx 1 _ rfl)
        have cx2 := (hbel.cell (p := ⟨blx, offx + k * 7 + 2, none⟩) hbx).trans (hcellx 2 _ rfl)
        have cx3 := (hbel.cell (p := ⟨blx, offx + k * 7 + 3, none⟩) hbx).trans (hcellx 3 _ rfl)
        have cx4 := (hbel.cell (p := ⟨blx, offx + k * 7 + 4, none⟩) hbx).trans (hcellx 4 _ rfl)
        have cx5 := (hbel.cell (p := ⟨blx, offx + k * 7 + 5, none⟩) hbx).trans (hcellx 5 _ rfl)
        have cx6 := (hbel.cell (p := ⟨blx, offx + k * 7 + 6, none⟩) hbx).trans (hcellx 6 _ rfl)
        have i0 : (0 : Int) ≤ (k : Int) := by omega
        have i1 : (k : Int) < (xl.length : Int) := by omega
        have e1 : decide ((k : Int) < (xl.length : Int)) = true := decide_eq_true (by omega)
        clear hcellx hux hpz HK hdep g6x
        go_wp2_with fail
        refine (HC.out _ hbel).mono ?_
        rintro e w2 ⟨rfl, hb2⟩
        have HB2 := Lib.hid (HB.out.below hb2)
        have HK2 := Lib.hid (show maxL STy.depth xl = max (max acc pz) (maxL STy.depth (xl.drop (k + 1))) by rw [HK1.out]; omega)
        clear cx0 cx1 cx2 cx3 cx4 cx5 cx6 hb2 HK1
        go_wp2_with fail
        refine (big_any acc pz _).mono ?_
        rintro e w9 ⟨rfl, rfl⟩
        go_wp2
        go_roundw
        case rel => exact ⟨k + 1, max acc pz, hltx, by go_num, rfl, by omega, HK2, HB2⟩
        case measure => simp [intOf]; omega
      · have e1 : decide ((k : Int) < (xl.length : Int)) = false := decide_eq_false (by omega)
        have e1' : decide (k < xl.length) = false := decide_eq_false (by omega)
        have HKE := Lib.hid (show maxL STy.depth xl = acc by rw [HK.out, maxL_end STy.depth xl k (by omega)]; omega)
        clear hk hltx HK
        have HF := Lib.hid (show 1 + acc = S by rw [HE.out, HKE.out])
        go_wp2
        go_ret
        exact ⟨ret_i (by rw [← HF.out]; omega), hbel⟩
set_option maxRecDepth 100000 in
set_option maxHeartbeats 4000000 in
theorem rdepthExpr_any : ∀ (N : Nat) (x : SExpr) (us : List Value) (w : World), x.size ≤ N → x.size ≤ 1048576 → Rds w w.heap.size us x.d →
    Calls Tryz.prog 36 #[.agg us.toArray] w fun e w' => e = .returned (.int .i64 x.depth) ∧ Below w.heap.size w w' := by
  intro N
  induction N with
  | zero => intro x us w h; have := x.size_pos; omega
  | succ N ih =>
    intro x us w hN hs hus
    have IH := Lib.hid ih
    clear ih
    obtain ⟨v6, v7, rfl, h6, h7, -⟩ := SExpr.cells hus
    have HE := Lib.hid (x.depth_eq)
    have hsz := x.size_eq
    have hds := x.depth_size
    have hlen := SExpr.sizes_len x.l
    have hlen7 := SArm.sizes_len x.arms
    have hN2 : SExpr.sizes x.l ≤ N ∧ SExpr.sizes x.l ≤ 1048576 ∧ SArm.sizes x.arms ≤ N ∧ SArm.sizes x.arms ≤ 1048576 := by omega
    have H6 := Lib.hid h6
    obtain ⟨a, c, rfl⟩ := h6.slice_inv
    have H7 := Lib.hid h7
    obtain ⟨a7, c7, rfl⟩ := h7.slice_inv
    obtain ⟨S, hS⟩ : ∃ z, x.depth = z := ⟨_, rfl⟩
    rw [hS] at HE hds ⊢
    have HS := Lib.hid (show S ≤ 1048576 by omega)
    obtain ⟨xl, hxl⟩ : ∃ z, x.l = z := ⟨_, rfl⟩
    rw [hxl] at HE H6 hN2 hlen ⊢
    obtain ⟨xa, hxa⟩ : ∃ z, x.arms = z := ⟨_, rfl⟩
    rw [hxa] at HE H7 hN2 hlen7 ⊢
    have hl7 : xa.length ≤ 1048576 := by omega
    have hl6 : xl.length ≤ 1048576 := by omega
    clear hS hxl hus h6 hsz hlen hN hs hds hxa h7 hlen7
    go_enter Tryz.func36, Tryz.ntmps36
    go_wp2
    obtain ⟨bx, hbx⟩ : ∃ b : Array Value, #[.int .u8 x.kind, .string x.s, .int .i64 x.n, .int .i64 x.at_, .int .i64 x.line, .int .i64 x.col, .slice a xl.length c, .slice a7 xa.length c7] = b := ⟨_, rfl⟩
    have b6 : bx[6]? = some (.slice a xl.length c) := by rw [← hbx]; rfl
    have b7 : bx[7]? = some (.slice a7 xa.length c7) := by rw [← hbx]; rfl
    have HB0 := Lib.hid (OneB.mk' w bx 28)
    obtain ⟨W0, hW0⟩ : ∃ W, w.alloc (.cells bx 28) = W := ⟨_, rfl⟩
    rw [hW0] at HB0
    rw [hbx, hW0]
    clear hbx hW0
    go_loopw [3, 4] (fun ua uk wr => ∃ k acc : Nat, k ≤ xl.length ∧ uk = .int .i64 k ∧ ua = .int .i64 acc ∧ acc ≤ 1048576 ∧ Hid (maxL SExpr.depth xl = max acc (maxL SExpr.depth (xl.drop k))) ∧ Hid (OneB w wr bx 28)) (fun _ u _ => xl.length - (intOf u).toNat)
    case atStart => exact ⟨0, 0, Nat.zero_le _, rfl, rfl, Nat.zero_le _, Lib.hid (by simp), HB0⟩
    case round =>
      obtain ⟨wo, rfl⟩ : ∃ z, z = wr := ⟨_, rfl⟩
      obtain ⟨k, acc, hk, rfl, rfl, hacc, HK, HB⟩ := hrel
      have hbel := HB.out.bel
      have hszo := hbel.size
      have x6 := (HB.out.x.cell 6).trans b6
      by_cases hltx : k < xl.length
      · have hdep := HS.out
        obtain ⟨blx, offx, cpx, usx, hvx, hbx, hcx, hcellx, hux⟩ := H6.out.elem SExpr.d_len rfl k hltx (by omega)
        injection hvx with hax hnx hcapx
        subst hax hcapx
        have HC := Lib.hid (fun (W : World) (hW : Below w.heap.size w W) => IH.out xl[k] usx W (by have := SExpr.sizes_get xl k hltx; omega) (by have := SExpr.sizes_get xl k hltx; omega) ((hux.keep hW).mono hW.size))
        have hpd : xl[k].depth ≤ 1048576 := by have := SExpr.sizes_get xl k hltx; have := xl[k].depth_size; omega
        have HK1 := Lib.hid (HK.out.trans (by rw [maxL_drop SExpr.depth xl k hltx]))
        obtain ⟨pz, hpz⟩ : ∃ z, xl[k].depth = z := ⟨_, rfl⟩
        rw [hpz] at HC HK1 hpd
        obtain ⟨v6x, v7x, rfl, g6x, g7x, -⟩ := SExpr.cells hux
        obtain ⟨a6x, d6x, rfl⟩ := g6x.slice_inv
        obtain ⟨a7x, d7x, rfl⟩ := g7x.slice_inv
        have cx0 := (hbel.cell (p := ⟨blx, offx + k * 8, none⟩) hbx).trans (hcellx 0 _ rfl)
        have cx1 := (hbel.cell (p := ⟨blx, offx + k * 8 + 1, none⟩) hbx).trans (hcellx 1 _ rfl)
        have cx2 := (hbel.cell (p := ⟨blx, offx + k * 8 + 2, none⟩) hbx).trans (hcellx 2 _ rfl)
        have cx3 := (hbel.cell (p := ⟨blx, offx + k * 8 + 3, none⟩) hbx).trans (hcellx 3 _ rfl)
        have cx4 := (hbel.cell (p := ⟨blx, offx + k * 8 + 4, none⟩) hbx).trans (hcellx 4 _ rfl)
        have cx5 := (hbel.cell (p := ⟨blx, offx + k * 8 + 5, none⟩) hbx).trans (hcellx 5 _ rfl)
        have cx6 := (hbel.cell (p := ⟨blx, offx + k * 8 + 6, none⟩) hbx).trans (hcellx 6 _ rfl)
        have cx7 := (hbel.cell (p := ⟨blx, offx + k * 8 + 7, none⟩) hbx).trans (hcellx 7 _ rfl)
        have i0 : (0 : Int) ≤ (k : Int) := by omega
        have i1 : (k : Int) < (xl.length : Int) := by omega
        have e1 : decide ((k : Int) < (xl.length : Int)) = true := decide_eq_true (by omega)
        clear hcellx hux hpz HK hdep g6x g7x
        go_wp2_with fail
        refine (HC.out _ hbel).mono ?_
        rintro e w2 ⟨rfl, hb2⟩
        have HB2 := Lib.hid (HB.out.below hb2)
        have HK2 := Lib.hid (show maxL SExpr.depth xl = max (max acc pz) (maxL SExpr.depth (xl.drop (k + 1))) by rw [HK1.out]; omega)
        clear cx0 cx1 cx2 cx3 cx4 cx5 cx6 cx7 hb2 HK1
        go_wp2_with fail
        refine (big_any acc pz _).mono ?_
        rintro e w9 ⟨rfl, rfl⟩
        go_wp2
        go_roundw
        case rel => exact ⟨k + 1, max acc pz, hltx, by go_num, rfl, by omega, HK2, HB2⟩
        case measure => simp [intOf]; omega
      · have e1 : decide ((k : Int) < (xl.length : Int)) = false := decide_eq_false (by omega)
        have e1' : decide (k < xl.length) = false := decide_eq_false (by omega)
        have HKE := Lib.hid (show maxL SExpr.depth xl = acc by rw [HK.out, maxL_end SExpr.depth xl k (by omega)]; omega)
        clear hk hltx HK
        have HF := Lib.hid (show S = 1 + max acc (maxL SArm.depth xa) by rw [HE.out, HKE.out])
        have HB0 := HB
        go_wp2
        clear x6 hbel hszo HKE HE HB b6 e1 H6
        obtain ⟨acc0, hacc0⟩ : ∃ z, acc = z := ⟨_, rfl⟩
        rw [hacc0] at HF hacc ⊢
        clear hacc0 e1'
        go_loopw [3, 5] (fun ua uk wr => ∃ k acc : Nat, k ≤ xa.length ∧ uk = .int .i64 k ∧ ua = .int .i64 acc ∧ acc ≤ 1048576 ∧ Hid (max acc0 (maxL SArm.depth xa) = max acc (maxL SArm.depth (xa.drop k))) ∧ Hid (OneB w wr bx 28)) (fun _ u _ => xa.length - (intOf u).toNat)
        case atStart => exact ⟨0, acc0, Nat.zero_le _, rfl, rfl, hacc, Lib.hid (by simp), HB0⟩
        case round =>
          obtain ⟨wo, rfl⟩ : ∃ z, z = wr := ⟨_, rfl⟩
          obtain ⟨k, acc, hk, rfl, rfl, hacc, HK, HB⟩ := hrel
          have hbel := HB.out.bel
          have hszo := hbel.size
          have x7 := (HB.out.x.cell 7).trans b7
          by_cases hltx : k < xa.length
          · have hdep := HS.out
            obtain ⟨blx, offx, cpx, usx, hvx, hbx, hcx, hcellx, hux⟩ := H7.out.elem SArm.d_len rfl k hltx (by omega)
            injection hvx with hax hnx hcapx
            subst hax hcapx
            have hpe : xa[k].p.size ≤ 1048576 ∧ xa[k].e.size ≤ N ∧ xa[k].e.size ≤ 1048576 := by have := SArm.sizes_get xa k hltx; have := SArm.size_eq xa[k]; omega
            have HK1 := Lib.hid (HK.out.trans (by rw [maxL_drop SArm.depth xa k hltx, SArm.depth_eq]))
            obtain ⟨upx, uex, rfl, hpx, hex⟩ := SArm.cells hux
            have HP := Lib.hid (fun (W : World) (hW : Below w.heap.size w W) => rdepthPat_any _ xa[k].p upx W (Nat.le_refl _) hpe.1 ((hpx.keep hW).mono hW.size))
            have HC := Lib.hid (fun (W : World) (hW : Below w.heap.size w W) => IH.out xa[k].e uex W hpe.2.1 hpe.2.2 ((hex.keep hW).mono hW.size))
            obtain ⟨v6px, rfl, g6px, -⟩ := SPat.cells hpx
            obtain ⟨a6px, d6px, rfl⟩ := g6px.slice_inv
            obtain ⟨v6ex, v7ex, rfl, g6ex, g7ex, -⟩ := SExpr.cells hex
            obtain ⟨a6ex, d6ex, rfl⟩ := g6ex.slice_inv
            obtain ⟨a7ex, d7ex, rfl⟩ := g7ex.slice_inv
            have hq1 : xa[k].p.depth ≤ 1048576 := by have := xa[k].p.depth_size; omega
            have hq2 : xa[k].e.depth ≤ 1048576 := by have := xa[k].e.depth_size; omega
            obtain ⟨q1, hq1'⟩ : ∃ z, xa[k].p.depth = z := ⟨_, rfl⟩
            obtain ⟨q2, hq2'⟩ : ∃ z, xa[k].e.depth = z := ⟨_, rfl⟩
            rw [hq1'] at HP HK1 hq1
            rw [hq2'] at HC HK1 hq2
            have cx0 := (hbel.cell (p := ⟨blx, offx + k * 15, none⟩) hbx).trans (hcellx 0 _ rfl)
            have cx1 := (hbel.cell (p := ⟨blx, offx + k * 15 + 1, none⟩) hbx).trans (hcellx 1 _ rfl)
            have cx2 := (hbel.cell (p := ⟨blx, offx + k * 15 + 2, none⟩) hbx).trans (hcellx 2 _ rfl)
            have cx3 := (hbel.cell (p := ⟨blx, offx + k * 15 + 3, none⟩) hbx).trans (hcellx 3 _ rfl)
            have cx4 := (hbel.cell (p := ⟨blx, offx + k * 15 + 4, none⟩) hbx).trans (hcellx 4 _ rfl)
            have cx5 := (hbel.cell (p := ⟨blx, offx + k * 15 + 5, none⟩) hbx).trans (hcellx 5 _ rfl)
            have cx6 := (hbel.cell (p := ⟨blx, offx + k * 15 + 6, none⟩) hbx).trans (hcellx 6 _ rfl)
            have cx7 := (hbel.cell (p := ⟨blx, offx + k * 15 + 7, none⟩) hbx).trans (hcellx 7 _ rfl)
            have cx8 := (hbel.cell (p := ⟨blx, offx + k * 15 + 8, none⟩) hbx).trans (hcellx 8 _ rfl)
            have cx9 := (hbel.cell (p := ⟨blx, offx + k * 15 + 9, none⟩) hbx).trans (hcellx 9 _ rfl)
            have cx10 := (hbel.cell (p := ⟨blx, offx + k * 15 + 10, none⟩) hbx).trans (hcellx 10 _ rfl)
            have cx11 := (hbel.cell (p := ⟨blx, offx + k * 15 + 11, none⟩) hbx).trans (hcellx 11 _ rfl)
            have cx12 := (hbel.cell (p := ⟨blx, offx + k * 15 + 12, none⟩) hbx).trans (hcellx 12 _ rfl)
            have cx13 := (hbel.cell (p := ⟨blx, offx + k * 15 + 13, none⟩) hbx).trans (hcellx 13 _ rfl)
            have cx14 := (hbel.cell (p := ⟨blx, offx + k * 15 + 14, none⟩) hbx).trans (hcellx 14 _ rfl)
            generalize xa[k].p.kind = g0 at HP cx0
            generalize xa[k].p.s = g1 at HP cx1
            generalize xa[k].p.n = g2 at HP cx2
            generalize xa[k].p.at_ = g3 at HP cx3
            generalize xa[k].p.line = g4 at HP cx4
            generalize xa[k].p.col = g5 at HP cx5
            generalize xa[k].p.l.length = g6 at HP cx6
            generalize xa[k].e.kind = g7 at HC cx7
            generalize xa[k].e.s = g8 at HC cx8
            generalize xa[k].e.n = g9 at HC cx9
            generalize xa[k].e.at_ = g10 at HC cx10
            generalize xa[k].e.line = g11 at HC cx11
            generalize xa[k].e.col = g12 at HC cx12
            generalize xa[k].e.l.length = g13 at HC cx13
            generalize xa[k].e.arms.length = g14 at HC cx14
            have hlo : w.heap.size < wo.heap.size := HB.out.x.lt
            have hlb : blx < wo.heap.size := by omega
            have HF2 := Lib.hid (fun (V : World) (hV : Below wo.heap.size wo V) => (⟨(hV.cell (p := ⟨w.heap.size, 7, none⟩) hlo).trans x7, (hV.cell (p := ⟨blx, offx + k * 15, none⟩) hlb).trans cx0, (hV.cell (p := ⟨blx, offx + k * 15 + 1, none⟩) hlb).trans cx1, (hV.cell (p := ⟨blx, offx + k * 15 + 2, none⟩) hlb).trans cx2, (hV.cell (p := ⟨blx, offx + k * 15 + 3, none⟩) hlb).trans cx3, (hV.cell (p := ⟨blx, offx + k * 15 + 4, none⟩) hlb).trans cx4, (hV.cell (p := ⟨blx, offx + k * 15 + 5, none⟩) hlb).trans cx5, (hV.cell (p := ⟨blx, offx + k * 15 + 6, none⟩) hlb).trans cx6, (hV.cell (p := ⟨blx, offx + k * 15 + 7, none⟩) hlb).trans cx7, (hV.cell (p := ⟨blx, offx + k * 15 + 8, none⟩) hlb).trans cx8, (hV.cell (p := ⟨blx, offx + k * 15 + 9, none⟩) hlb).trans cx9, (hV.cell (p := ⟨blx, offx + k * 15 + 10, none⟩) hlb).trans cx10, (hV.cell (p := ⟨blx, offx + k * 15 + 11, none⟩) hlb).trans cx11, (hV.cell (p := ⟨blx, offx + k * 15 + 12, none⟩) hlb).trans cx12, (hV.cell (p := ⟨blx, offx + k * 15 + 13, none⟩) hlb).trans cx13, (hV.cell (p := ⟨blx, offx + k * 15 + 14, none⟩) hlb).trans cx14⟩ : V.cell? ⟨w.heap.size, 7, none⟩ = some (.slice (some ⟨blx, offx, none⟩) xa.length c7) ∧ V.cell? ⟨blx, offx + k * 15, none⟩ = some (.int .u8 g0) ∧ V.cell? ⟨blx, offx + k * 15 + 1, none⟩ = some (.string g1) ∧ V.cell? ⟨blx, offx + k * 15 + 2, none⟩ = some (.int .i64 g2) ∧ V.cell? ⟨blx, offx + k * 15 + 3, none⟩ = some (.int .i64 g3) ∧ V.cell? ⟨blx, offx + k * 15 + 4, none⟩ = some (.int .i64 g4) ∧ V.cell? ⟨blx, offx + k * 15 + 5, none⟩ = some (.int .i64 g5) ∧ V.cell? ⟨blx, offx + k * 15 + 6, none⟩ = some (.slice a6px g6 d6px) ∧ V.cell? ⟨blx, offx + k * 15 + 7, none⟩ = some (.int .u8 g7) ∧ V.cell? ⟨blx, offx + k * 15 + 8, none⟩ = some (.string g8) ∧ V.cell? ⟨blx, offx + k * 15 + 9, none⟩ = some (.int .i64 g9) ∧ V.cell? ⟨blx, offx + k * 15 + 10, none⟩ = some (.int .i64 g10) ∧ V.cell? ⟨blx, offx + k * 15 + 11, none⟩ = some (.int .i64 g11) ∧ V.cell? ⟨blx, offx + k * 15 + 12, none⟩ = some (.int .i64 g12) ∧ V.cell? ⟨blx, offx + k * 15 + 13, none⟩ = some (.slice a6ex g13 d6ex) ∧ V.cell? ⟨blx, offx + k * 15 + 14, none⟩ = some (.slice a7ex g14 d7ex)))
            have HFIN := Lib.hid (fun (V : World) (hV : Below wo.heap.size wo V) => hbel.trans (hV.mono hszo))
            have HP' := Lib.hid (fun (V : World) (hV : Below wo.heap.size wo V) => HP.out V (HFIN.out V hV))
            have HC' := Lib.hid (fun (V : World) (hV : Below wo.heap.size wo V) => HC.out V (HFIN.out V hV))
            have HK2 := Lib.hid (show max acc0 (maxL SArm.depth xa) = max (max acc (max q1 q2)) (maxL SArm.depth (xa.drop (k + 1))) by rw [HK1.out]; omega)
            have i0 : (0 : Int) ≤ (k : Int) := by omega
            have i1 : (k : Int) < (xa.length : Int) := by omega
            have e1 : decide ((k : Int) < (xa.length : Int)) = true := decide_eq_true (by omega)
            clear hcellx hux HK hdep HP HC HK1 hpe hq1' hq2' g6px g6ex g7ex hpx hex
            go_upto_region 9 with fail
            go_region_held3 (fun w' => (w'.cell? ⟨w.heap.size, 7, none⟩ = some (.slice (some ⟨blx, offx, none⟩) xa.length c7) ∧ w'.cell? ⟨blx, offx + k * 15, none⟩ = some (.int .u8 g0) ∧ w'.cell? ⟨blx, offx + k * 15 + 1, none⟩ = some (.string g1) ∧ w'.cell? ⟨blx, offx + k * 15 + 2, none⟩ = some (.int .i64 g2) ∧ w'.cell? ⟨blx, offx + k * 15 + 3, none⟩ = some (.int .i64 g3) ∧ w'.cell? ⟨blx, offx + k * 15 + 4, none⟩ = some (.int .i64 g4) ∧ w'.cell? ⟨blx, offx + k * 15 + 5, none⟩ = some (.int .i64 g5) ∧ w'.cell? ⟨blx, offx + k * 15 + 6, none⟩ = some (.slice a6px g6 d6px) ∧ w'.cell? ⟨blx, offx + k * 15 + 7, none⟩ = some (.int .u8 g7) ∧ w'.cell? ⟨blx, offx + k * 15 + 8, none⟩ = some (.string g8) ∧ w'.cell? ⟨blx, offx + k * 15 + 9, none⟩ = some (.int .i64 g9) ∧ w'.cell? ⟨blx, offx + k * 15 + 10, none⟩ = some (.int .i64 g10) ∧ w'.cell? ⟨blx, offx + k * 15 + 11, none⟩ = some (.int .i64 g11) ∧ w'.cell? ⟨blx, offx + k * 15 + 12, none⟩ = some (.int .i64 g12) ∧ w'.cell? ⟨blx, offx + k * 15 + 13, none⟩ = some (.slice a6ex g13 d6ex) ∧ w'.cell? ⟨blx, offx + k * 15 + 14, none⟩ = some (.slice a7ex g14 d7ex)) ∧ Below wo.heap.size wo w') (first | assumption | exact ⟨⟨x7, cx0, cx1, cx2, cx3, cx4, cx5, cx6, cx7, cx8, cx9, cx10, cx11, cx12, cx13, cx14⟩, Below.refl _ _⟩ | exact keepB0 HF2.out (Below.refl _ _).drew | exact keepB HF2.out ‹_› ‹Below _ _ _›) (first | (go_at_call 104; refine (HP'.out _ (And.right ‹_ ∧ Below wo.heap.size wo _›)).mono ?_; rintro _ w5 ⟨rfl, hb5⟩) | (go_at_call 36; refine (HC'.out _ (And.right ‹_ ∧ Below wo.heap.size wo _›)).mono ?_; rintro _ w5 ⟨rfl, hb5⟩) | (go_at_call 43; first | (refine (big_any q1 q2 _).mono ?_; rintro _ w6 ⟨rfl, rfl⟩) | (refine (big_any acc (max q1 q2) _).mono ?_; rintro _ w7 ⟨rfl, rfl⟩)))
            all_goals
              go_wp2
              go_roundw
              case rel => exact ⟨k + 1, max acc (max q1 q2), hltx, by go_num, rfl, by omega, HK2, Lib.hid (HB.out.below (And.right ‹_ ∧ Below wo.heap.size wo _›))⟩
              case measure => simp [intOf]; omega
          · have e1 : decide ((k : Int) < (xa.length : Int)) = false := decide_eq_false (by omega)
            have e1' : decide (k < xa.length) = false := decide_eq_false (by omega)
            have HF3 := Lib.hid (show 1 + acc = S by rw [HF.out, HK.out, maxL_end SArm.depth xa k (by omega)]; omega)
            clear hk hltx HK
            go_wp2
            go_ret
            exact ⟨ret_i (by rw [← HF3.out]; omega), hbel⟩
end Go.Proofs.YtnneooidkbhbeaaGreatDoor
/- Contracts of the document's answer for layer 11: Depth. Written by gen_shy.py. -/
namespace Go.Proofs.YtnneooidkbhbeaaGreatDoor
open Go.RowKit

set_option maxRecDepth 100000 in
set_option maxHeartbeats 4000000 in
theorem rdepth_any (x : SDecl) (us : List Value) (w : World) (hx : x.Small) (hus : Rds w w.heap.size us x.d) :
    Calls Tryz.prog 15 #[.agg us.toArray] w fun e w' => e = .returned (.int .i64 x.depth) ∧ Below w.heap.size w w' := by
  obtain ⟨v5, v6, ue, rfl, h5, h6, he, -, -⟩ := SDecl.cells hus
  have HEX := Lib.hid (fun (W : World) (hW : Below w.heap.size w W) => rdepthExpr_any _ x.e ue W (Nat.le_refl _) hx.e ((he.keep hW).mono hW.size))
  have H6 := Lib.hid h6
  have HX := Lib.hid hx
  obtain ⟨a5, c5, rfl⟩ := h5.slice_inv
  obtain ⟨a, c, rfl⟩ := h6.slice_inv
  obtain ⟨v6e, v7e, rfl, k6e, k7e, -⟩ := SExpr.cells he
  obtain ⟨a6e, d6e, rfl⟩ := k6e.slice_inv
  obtain ⟨a7e, d7e, rfl⟩ := k7e.slice_inv
  have HE := Lib.hid (show x.depth = if x.kind = 2 then x.e.depth else if x.kind = 1 then maxL SConD.depth x.cons else 0 from rfl)
  have hcl := hx.nc
  obtain ⟨xk, hxk⟩ : ∃ z, x.kind = z := ⟨_, rfl⟩
  rw [hxk] at HE ⊢
  obtain ⟨S, hS⟩ : ∃ z, x.depth = z := ⟨_, rfl⟩
  rw [hS] at HE ⊢
  clear hus h5 h6 he k6e k7e hx hxk hS
  by_cases k2 : xk = 2
  · have t2 : (xk == 2) = true := by simp [k2]
    have HM := Lib.hid (show S = x.e.depth by rw [HE.out, if_pos k2])
    clear k2 HE
    go_enter Tryz.func15, Tryz.ntmps15
    go_wp2_with fail
    refine (HEX.out _ (by (repeat (with_reducible first | exact Below.refl _ _ | refine Below.setCell ?_ ?_ _ | refine Below.alloc ?_ ?_ _ | refine Below.drewN ?_ _ | refine Below.drew ?_)) <;> first | omega | (simp; omega) | (simp; done))).mono ?_
    rintro e w2 ⟨rfl, hb2⟩
    have hfin : Below w.heap.size w w2 := Below.trans (by (repeat (with_reducible first | exact Below.refl _ _ | refine Below.setCell ?_ ?_ _ | refine Below.alloc ?_ ?_ _ | refine Below.drewN ?_ _ | refine Below.drew ?_)) <;> first | omega | (simp; omega) | (simp; done)) (hb2.mono (by first | omega | (simp; omega) | (simp; done)))
    clear hb2
    go_wp2
    go_ret
    exact ⟨ret_i (by rw [HM.out]), hfin⟩
  · have t2 : (xk == 2) = false := by simpa using k2
    have HE1 := Lib.hid (show S = if xk = 1 then maxL SConD.depth x.cons else 0 by rw [HE.out, if_neg k2])
    clear HE HEX
    go_enter Tryz.func15, Tryz.ntmps15
    go_wp2
    obtain ⟨bx, hbx⟩ : ∃ b : Array Value, #[.int .u8 xk, .string x.name, .int .i64 x.at_, .int .i64 x.line, .int .i64 x.col, .slice a5 x.params.length c5, .slice a x.cons.length c, .bool x.rc, .int .u8 x.e.kind, .string x.e.s, .int .i64 x.e.n, .int .i64 x.e.at_, .int .i64 x.e.line, .int .i64 x.e.col, .slice a6e x.e.l.length d6e, .slice a7e x.e.arms.length d7e] = b := ⟨_, rfl⟩
    have b0 : bx[0]? = some (.int .u8 xk) := by rw [← hbx]; rfl
    have b6 : bx[6]? = some (.slice a x.cons.length c) := by rw [← hbx]; rfl
    have HB0 := Lib.hid (OneB.mk' w bx 40)
    obtain ⟨W0, hW0⟩ : ∃ W, w.alloc (.cells bx 40) = W := ⟨_, rfl⟩
    rw [hW0] at HB0
    rw [hbx, hW0]
    clear hbx hW0
    by_cases k1 : xk = 1
    · have t1 : (xk == 1) = true := by simp [k1]
      have HM := Lib.hid (show S = maxL SConD.depth x.cons by rw [HE1.out, if_pos k1])
      obtain ⟨cl, hcl'⟩ : ∃ z, x.cons = z := ⟨_, rfl⟩
      have HSM := Lib.hid (show ∀ i (h : i < cl.length), cl[i].Small by subst hcl'; exact HX.out.c)
      rw [hcl'] at H6 HM hcl b6
      clear k1 HE1 HX hcl' k2
      go_loopw [3, 4] (fun ua uk wr => ∃ k acc : Nat, k ≤ cl.length ∧ uk = .int .i64 k ∧ ua = .int .i64 acc ∧ acc ≤ 1048576 ∧ Hid (maxL SConD.depth cl = max acc (maxL SConD.depth (cl.drop k))) ∧ Hid (OneB w wr bx 40)) (fun _ u _ => cl.length - (intOf u).toNat)
      case atStart => exact ⟨0, 0, Nat.zero_le _, rfl, rfl, Nat.zero_le _, Lib.hid (by simp), HB0⟩
      case round =>
        obtain ⟨wo, rfl⟩ : ∃ z, z = wr := ⟨_, rfl⟩
        obtain ⟨k, acc, hk, rfl, rfl, hacc, HK, HB⟩ := hrel
        have hbel := HB.out.bel
        have hszo := hbel.size
        have x0 := (HB.out.x.cell 0).trans b0
        have x6 := (HB.out.x.cell 6).trans b6
        by_cases hltx : k < cl.length
        · obtain ⟨blx, offx, cpx, usx, hvx, hbx, hcx, hcellx, hux⟩ := H6.out.elem SConD.d_len rfl k hltx (by omega)
          injection hvx with hax hnx hcapx
          subst hax hcapx
          have hsm := HSM.out k hltx
          have HK1 := Lib.hid (HK.out.trans (by rw [maxL_drop SConD.depth cl k hltx]))
          obtain ⟨cc, hcc⟩ : ∃ z, cl[k] = z := ⟨_, rfl⟩
          rw [hcc] at hsm hux HK1
          have HSF := Lib.hid hsm
          have hnf := hsm.nf
          obtain ⟨v6x, rfl, g6x, -⟩ := SConD.cells hux
          have HG := Lib.hid g6x
          obtain ⟨a6x, d6x, rfl⟩ := g6x.slice_inv
          have cx4 := (hbel.cell (p := ⟨blx, offx + k * 5 + 4, none⟩) hbx).trans (hcellx 4 _ rfl)
          obtain ⟨fl, hfl⟩ : ∃ z, cc.fields = z := ⟨_, rfl⟩
          have HKF := Lib.hid (show cc.depth = maxL SField.depth fl by rw [← hfl]; rfl)
          have HSF2 := Lib.hid (show ∀ i (h : i < fl.length), fl[i].t.size ≤ 1048576 by subst hfl; exact HSF.out.f)
          rw [hfl] at HG hnf cx4
          have i0 : (0 : Int) ≤ (k : Int) := by omega
          have i1 : (k : Int) < (cl.length : Int) := by omega
          have e1 : decide ((k : Int) < (cl.length : Int)) = true := decide_eq_true (by omega)
          clear hcellx hux g6x hcc hsm HSF hfl HK
          go_wp2_with fail
          go_loopw [3, 5] (fun ua uj wr => ∃ j acc2 : Nat, j ≤ fl.length ∧ uj = .int .i64 j ∧ ua = .int .i64 acc2 ∧ acc2 ≤ 1048576 ∧ Hid (max acc (maxL SField.depth fl) = max acc2 (maxL SField.depth (fl.drop j))) ∧ Hid (OneB w wr bx 40 ∧ Below wo.heap.size wo wr)) (fun _ u _ => fl.length - (intOf u).toNat)
          case atStart => exact ⟨0, acc, Nat.zero_le _, rfl, rfl, hacc, Lib.hid (by simp), Lib.hid ⟨HB.out, Below.refl _ _⟩⟩
          case round =>
            obtain ⟨wq, rfl⟩ : ∃ z, z = wr := ⟨_, rfl⟩
            obtain ⟨j, acc2, hj, rfl, rfl, hacc2, HJ, HQ⟩ := hrel
            have hbq := HQ.out.1.bel
            have hszq := hbq.size
            have y6 := (HQ.out.1.x.cell 6).trans b6
            have hlb : blx < wo.heap.size := by omega
            have cy4 := (HQ.out.2.cell (p := ⟨blx, offx + k * 5 + 4, none⟩) hlb).trans cx4
            by_cases hltj : j < fl.length
            · obtain ⟨blf, offf, cpf, usf, hvf, hbf, hcf, hcellf, huf⟩ := HG.out.elem SField.d_len rfl j hltj (by omega)
              injection hvf with haf hnf' hcapf
              subst haf hcapf
              have hfs := HSF2.out j hltj
              have HJ1 := Lib.hid (HJ.out.trans (by rw [maxL_drop SField.depth fl j hltj]))
              obtain ⟨ut, rfl, ht, -⟩ := SField.cells huf
              have HC := Lib.hid (fun (W : World) (hW : Below w.heap.size w W) => rdepthTy_any _ fl[j].t ut W (Nat.le_refl _) hfs ((ht.keep hW).mono hW.size))
              have hpd : SField.depth fl[j] ≤ 1048576 := by have := fl[j].t.depth_size; show fl[j].t.depth ≤ _; omega
              obtain ⟨pz, hpz⟩ : ∃ z, SField.depth fl[j] = z := ⟨_, rfl⟩
              rw [show fl[j].t.depth = pz from hpz] at HC
              rw [hpz] at HJ1 hpd
              obtain ⟨v6t, rfl, h6t, -⟩ := STy.cells ht
              obtain ⟨at6, ct6, rfl⟩ := h6t.slice_inv
              have cf1 := (hbq.cell (p := ⟨blf, offf + j * 8 + 1, none⟩) hbf).trans (hcellf 1 _ rfl)
              have cf2 := (hbq.cell (p := ⟨blf, offf + j * 8 + 2, none⟩) hbf).trans (hcellf 2 _ rfl)
              have cf3 := (hbq.cell (p := ⟨blf, offf + j * 8 + 3, none⟩) hbf).trans (hcellf 3 _ rfl)
              have cf4 := (hbq.cell (p := ⟨blf, offf + j * 8 + 4, none⟩) hbf).trans (hcellf 4 _ rfl)
              have cf5 := (hbq.cell (p := ⟨blf, offf + j * 8 + 5, none⟩) hbf).trans (hcellf 5 _ rfl)
              have cf6 := (hbq.cell (p := ⟨blf, offf + j * 8 + 6, none⟩) hbf).trans (hcellf 6 _ rfl)
              have cf7 := (hbq.cell (p := ⟨blf, offf + j * 8 + 7, none⟩) hbf).trans (hcellf 7 _ rfl)
              have j0 : (0 : Int) ≤ (j : Int) := by omega
              have j1 : (j : Int) < (fl.length : Int) := by omega
              have e2 : decide ((j : Int) < (fl.length : Int)) = true := decide_eq_true (by omega)
              clear hcellf huf ht h6t hpz HJ hfs
              go_wp2_with fail
              refine (HC.out _ hbq).mono ?_
              rintro e w2 ⟨rfl, hb2⟩
              have HQ2 := Lib.hid (⟨HQ.out.1.below hb2, HQ.out.2.trans (hb2.mono HQ.out.2.size)⟩ : OneB w w2 bx 40 ∧ Below wo.heap.size wo w2)
              have HJ2 := Lib.hid (show max acc (maxL SField.depth fl) = max (max acc2 pz) (maxL SField.depth (fl.drop (j + 1))) by rw [HJ1.out]; omega)
              clear cf1 cf2 cf3 cf4 cf5 cf6 cf7 hb2 HJ1
              go_wp2_with fail
              refine (big_any acc2 pz _).mono ?_
              rintro e w9 ⟨rfl, rfl⟩
              go_wp2
              go_roundw
              case rel => exact ⟨j + 1, max acc2 pz, hltj, by go_num, rfl, by omega, HJ2, HQ2⟩
              case measure => simp [intOf]; omega
            · have e2 : decide ((j : Int) < (fl.length : Int)) = false := decide_eq_false (by omega)
              have e2' : decide (j < fl.length) = false := decide_eq_false (by omega)
              have HK2 := Lib.hid (show maxL SConD.depth cl = max acc2 (maxL SConD.depth (cl.drop (k + 1))) by
                have h1 := HJ.out
                rw [maxL_end SField.depth fl j (by omega)] at h1
                rw [HK1.out, HKF.out]; omega)
              have HB2 := Lib.hid HQ.out.1
              clear hj hltj HJ
              go_wp2
              go_roundw
              case rel => exact ⟨k + 1, acc2, hltx, by go_num, rfl, hacc2, HK2, HB2⟩
              case measure => simp [intOf]; omega
        · have e1 : decide ((k : Int) < (cl.length : Int)) = false := decide_eq_false (by omega)
          have e1' : decide (k < cl.length) = false := decide_eq_false (by omega)
          have HF := Lib.hid (show acc = S by rw [HM.out, HK.out, maxL_end SConD.depth cl k (by omega)]; omega)
          clear hk hltx HK
          go_wp2
          go_ret
          exact ⟨ret_i (by rw [← HF.out]), hbel⟩
    · have t1 : (xk == 1) = false := by simpa using k1
      have HM := Lib.hid (show S = 0 by rw [HE1.out, if_neg k1])
      clear k1 HE1 k2
      go_loopw [3, 4] (fun ua uk wr => uk = .int .i64 0 ∧ ua = .int .i64 0 ∧ Hid (OneB w wr bx 40)) (fun _ _ _ => 0)
      case atStart => exact ⟨rfl, rfl, HB0⟩
      case round =>
        obtain ⟨wo, rfl⟩ : ∃ z, z = wr := ⟨_, rfl⟩
        obtain ⟨rfl, rfl, HB⟩ := hrel
        have hbel := HB.out.bel
        have x0 := (HB.out.x.cell 0).trans b0
        have x6 := (HB.out.x.cell 6).trans b6
        by_cases hl : 0 < x.cons.length
        · have e1 : decide ((0 : Int) < (x.cons.length : Int)) = true := decide_eq_true (by omega)
          have e1' : decide (0 < x.cons.length) = true := decide_eq_true hl
          clear hl
          go_wp2
          go_ret
          exact ⟨ret_i (by rw [HM.out]; rfl), hbel⟩
        · have e1 : decide ((0 : Int) < (x.cons.length : Int)) = false := decide_eq_false (by omega)
          have e1' : decide (0 < x.cons.length) = false := decide_eq_false hl
          clear hl
          go_wp2
          go_ret
          exact ⟨ret_i (by rw [HM.out]; rfl), hbel⟩
end Go.Proofs.YtnneooidkbhbeaaGreatDoor
