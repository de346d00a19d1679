/- Contracts: the document's answer for types: Size, May. Written by gen_cut.py. -/
import Derived.Test.YtpndkjjkdeingaaGreatDoorInT
import Derived.Deep.CutBlock
import Derived.Deep.DeepCutAuto
set_option linter.unusedVariables false
set_option linter.unusedSimpArgs false
namespace Go.Proofs.YtpndkjjkdeingaaGreatDoor
open Go.RowKit

set_option maxHeartbeats 1000000 in
theorem rsize_any : ∀ (N : Nat) (t : Ty) (us : List Value) (w : World), t.size ≤ N → t.size ≤ 1048576 → Rds w w.heap.size us t.d →
    Calls Tryz.prog 8 #[.agg us.toArray] w fun e w' => e = .returned (.int .i64 t.size) ∧ Below w.heap.size w w' := by
  intro N
  induction N with
  | zero => intro t us w h; have := size_pos t; omega
  | succ N ih =>
    intro t us w hN hs hus
    have IH := Lib.hid ih
    clear ih
    obtain ⟨v4, rfl, h4, w0, w1, w2, w3⟩ := Ty.cells hus
    have hsz := size_eq t
    obtain ⟨l, hl⟩ : ∃ l, t.l = l := ⟨_, rfl⟩
    rw [hl] at h4 hsz
    have HL := Lib.hid hl
    have hlen : l.length ≤ 1048576 := by have := sizes_len l; omega
    obtain ⟨a, cap, rfl⟩ := h4.slice_inv
    have HS := Lib.hid hsz
    clear hsz hl hus
    go_enter Tryz.func8, Tryz.ntmps8
    go_wp2
    obtain ⟨box, hbox⟩ : ∃ b : Array Value, #[.int .u8 t.kind, .int .i64 t.n, .int .i64 t.v, .int .u8 t.c, .slice a l.length cap] = b := ⟨_, rfl⟩
    have b4 : box[4]? = some (.slice a l.length cap) := by rw [← hbox]; rfl
    obtain ⟨w0', hw0⟩ : ∃ W, w.alloc (.cells box 39) = W := ⟨_, rfl⟩
    have hb0 : Blk w0' w.heap.size box 39 := by rw [← hw0]; exact Blk.new _ _ _ _ rfl
    have hl0 : Below w.heap.size w w0' := by rw [← hw0]; exact (Below.refl _ _).alloc (Nat.le_refl _) _
    have HI0 := Lib.hid (⟨hl0, hb0⟩ : Below w.heap.size w w0' ∧ Blk w0' w.heap.size box 39)
    rw [hbox, hw0]
    clear hbox hw0 hb0 hl0
    go_loopw [3, 4] (fun u3 u9 wr => ∃ k acc : Nat, k ≤ l.length ∧ u9 = .int .i64 k ∧ u3 = .int .i64 acc ∧ acc ≤ t.size ∧ Hid (acc + Ty.size.sizes (l.drop k) = t.size) ∧ Hid (Below w.heap.size w wr ∧ Blk wr w.heap.size box 39)) (fun _ u _ => l.length - (intOf u).toNat)
    case atStart => exact ⟨0, 1, Nat.zero_le _, rfl, rfl, size_pos t, HS.out.symm, HI0⟩
    case round =>
      obtain ⟨k, acc, hk, rfl, rfl, hacc, HE, HI⟩ := hrel
      have hbel := HI.out.1
      have hsz0 := hbel.size
      have x4 : wr.cell? ⟨w.heap.size, 4, none⟩ = some (.slice a l.length cap) := (HI.out.2.cell 4).trans b4
      by_cases hlt : k < l.length
      · obtain ⟨b, off, cap', us, hv, hb, hc, hcell, hus⟩ := h4.elem Ty.d_len rfl k hlt (by omega)
        injection hv with ha hn' hcap
        subst ha hcap
        have hsub : l[k].size + Ty.size.sizes (l.drop (k + 1)) + acc = t.size := by rw [← HE.out, sizes_drop l k hlt]; omega
        have hN' : l[k].size ≤ N ∧ acc + l[k].size ≤ t.size := ⟨by have := sizes_get l k hlt; have := HS.out; omega, by omega⟩
        have HS' := Lib.hid hsub
        clear hsub
        obtain ⟨v4', hus', h4', x0, x1, x2, x3⟩ := Ty.cells hus
        have HC := Lib.hid (IH.out l[k] us wr hN'.1 (by omega) ((hus.keep hbel).mono hbel.size))
        obtain ⟨a2, cap2, rfl⟩ := h4'.slice_inv
        subst hus'
        have c0 := (hbel.cell (p := ⟨b, off + k * 5, none⟩) hb).trans (hcell 0 _ rfl)
        have c1 := (hbel.cell (p := ⟨b, off + k * 5 + 1, none⟩) hb).trans (hcell 1 _ rfl)
        have c2 := (hbel.cell (p := ⟨b, off + k * 5 + 2, none⟩) hb).trans (hcell 2 _ rfl)
        have c3 := (hbel.cell (p := ⟨b, off + k * 5 + 3, none⟩) hb).trans (hcell 3 _ rfl)
        have c4 := (hbel.cell (p := ⟨b, off + k * 5 + 4, none⟩) hb).trans (hcell 4 _ rfl)
        clear hcell
        go_wp2_with fail
        refine HC.out.mono ?_
        rintro e w2 ⟨rfl, hb2⟩
        have HI2 := Lib.hid (⟨hbel.trans (hb2.mono hsz0), HI.out.2.below hb2 HI.out.2.lt⟩ : Below w.heap.size w w2 ∧ Blk w2 w.heap.size box 39)
        go_wp2
        go_roundw
        case rel => exact ⟨k + 1, acc + l[k].size, hlt, by go_num, by go_num, hN'.2, by show _ = _; have := HS'.out; omega, HI2⟩
        case measure => simp [intOf]; omega
      · go_wp2
        go_ret
        exact ⟨ret_i (by have := HE.out; rw [sizes_end l k (by omega)] at this; omega), hbel⟩

set_option maxHeartbeats 400000 in
theorem rmu_any (v c : Int) (w : World) :
    Calls Tryz.prog 45 #[.agg #[.int .i64 v, .int .u8 c]] w fun e w' => e = .returned (.bool (decide (isMu v c = 0))) ∧ Below w.heap.size w w' := by
  go_enter Tryz.func45, Tryz.ntmps45
  go_wp2
  all_goals
    go_ret
    refine ⟨ret_b ?_, (Below.refl _ _).alloc (Nat.le_refl _) _⟩
    go_light
    rw [Bool.eq_iff_iff]
    simp [isMu] at *
    try omega

set_option maxRecDepth 100000 in
set_option maxHeartbeats 4000000 in
theorem ris_any : ∀ (N : Nat) (t : Ty) (us : List Value) (w : World), t.size ≤ N → t.size ≤ 1048576 → Rds w w.heap.size us t.d →
    Calls Tryz.prog 27 #[.agg us.toArray] w fun e w' => e = .returned (.bool t.ok) ∧ Below w.heap.size w w' := by
  intro N
  induction N with
  | zero => intro t us w h; have := size_pos t; omega
  | succ N ih =>
    intro t us w hN hs hus
    have IH := Lib.hid ih
    clear ih
    obtain ⟨v4, rfl, h4, w0, w1, w2, w3⟩ := Ty.cells hus
    have hsz := size_eq t
    have HE := Lib.hid (Ty.ok_eq t)
    obtain ⟨l, hl⟩ : ∃ l, t.l = l := ⟨_, rfl⟩
    obtain ⟨k, hk⟩ : ∃ l, t.kind = l := ⟨_, rfl⟩
    obtain ⟨n, hn⟩ : ∃ l, t.n = l := ⟨_, rfl⟩
    obtain ⟨v, hv⟩ : ∃ l, t.v = l := ⟨_, rfl⟩
    obtain ⟨c, hc⟩ : ∃ l, t.c = l := ⟨_, rfl⟩
    rw [hl] at h4 hsz
    rw [hl, hk, hn, hv, hc] at HE
    simp only [hk, hn, hv, hc]
    have hlen : l.length ≤ 1048576 := by have := sizes_len l; omega
    have H4 := Lib.hid h4
    obtain ⟨a, cap, rfl⟩ := h4.slice_inv
    have HS := Lib.hid hsz
    clear hsz hl hus hk hn hv hc h4 w0 w1 w2 w3
    go_enter Tryz.func27, Tryz.ntmps27
    go_upto_region 1 with fail
    obtain ⟨box, hbox⟩ : ∃ b : Array Value, #[.int .u8 k, .int .i64 n, .int .i64 v, .int .u8 c, .slice a l.length cap] = b := ⟨_, rfl⟩
    have b0 : box[0]? = some (.int .u8 k) := by rw [← hbox]; rfl
    have b1 : box[1]? = some (.int .i64 n) := by rw [← hbox]; rfl
    have b2 : box[2]? = some (.int .i64 v) := by rw [← hbox]; rfl
    have b3 : box[3]? = some (.int .u8 c) := by rw [← hbox]; rfl
    have b4 : box[4]? = some (.slice a l.length cap) := by rw [← hbox]; rfl
    obtain ⟨W0, hW0⟩ : ∃ W, w.alloc (.cells box 39) = W := ⟨_, rfl⟩
    have hb0 : Blk W0 w.heap.size box 39 := by rw [← hW0]; exact Blk.new _ _ _ _ rfl
    have hl0 : Below w.heap.size w W0 := by rw [← hW0]; exact (Below.refl _ _).alloc (Nat.le_refl _) _
    have hs0 : Hid (W0.heap.size = w.heap.size + 1) := Lib.hid (by rw [← hW0]; simp)
    rw [hbox, hW0]
    clear hbox hW0
    go_cut [3] (fun z wx => z = .bool (decide (v = 0 ∧ c = 0)) ∧ wx = W0)
    case first => as_aux_lemma =>
      have x2 : W0.cell? ⟨w.heap.size, 2, none⟩ = some (.int .i64 v) := (hb0.cell 2).trans b2
      have x3 : W0.cell? ⟨w.heap.size, 3, none⟩ = some (.int .u8 c) := (hb0.cell 3).trans b3
      clear b0 b1 b2 b3 b4 HE
      go_wp2_with fail
      all_goals
        go_meet
        refine ⟨congrArg Value.bool ?_, rfl⟩
        go_light
        rw [Bool.eq_iff_iff]
        simp at *
        try omega
    case rest => as_aux_lemma =>
      obtain ⟨rfl, rfl⟩ := hcut
      have x0 : wc.cell? ⟨w.heap.size, 0, none⟩ = some (.int .u8 k) := (hb0.cell 0).trans b0
      go_upto_block 0 with fail
      obtain ⟨zz, hzz⟩ : ∃ z, decide (v = 0 ∧ c = 0) = z := ⟨_, rfl⟩
      rw [hzz]
      have HZ := Lib.hid hzz
      clear hzz
      go_cut [3, 4] (fun z q wx => z = .bool zz ∧ q = .bool (isT k n v c l.length) ∧ Below wc.heap.size wc wx)
      case first => as_aux_lemma =>
        have x0 : wc.cell? ⟨w.heap.size, 0, none⟩ = some (.int .u8 k) := (hb0.cell 0).trans b0
        have x1 : wc.cell? ⟨w.heap.size, 1, none⟩ = some (.int .i64 n) := (hb0.cell 1).trans b1
        have x2 : wc.cell? ⟨w.heap.size, 2, none⟩ = some (.int .i64 v) := (hb0.cell 2).trans b2
        have x3 : wc.cell? ⟨w.heap.size, 3, none⟩ = some (.int .u8 c) := (hb0.cell 3).trans b3
        have x4 : wc.cell? ⟨w.heap.size, 4, none⟩ = some (.slice a l.length cap) := (hb0.cell 4).trans b4
        have hws : w.heap.size < wc.heap.size := hb0.lt
        obtain ⟨L, hL⟩ : ∃ L, l.length = L := ⟨_, rfl⟩
        simp only [hL] at *
        clear b0 b1 b2 b3 b4 HE hb0 hL
        -- <SW
        obtain ⟨hz1, hz2⟩ : (zz = true → v = 0 ∧ c = 0) ∧ (zz = false → ¬(v = 0 ∧ c = 0)) := by have := HZ.out; constructor <;> intro h <;> subst h <;> simpa using this
        clear HZ
        cases zz
        all_goals simp only [forall_const, reduceCtorEq, false_implies] at hz1 hz2
        all_goals go_wp2_with (go_at_call 45; refine (rmu_any _ _ _).mono ?_; rintro e w2 ⟨rfl, hb2⟩; have y1 := (hb2.cell (p := ⟨w.heap.size, 1, none⟩) hws).trans x1; have y4 := (hb2.cell (p := ⟨w.heap.size, 4, none⟩) hws).trans x4)
        all_goals
          go_meet
          refine ⟨rfl, congrArg Value.bool ?_, ?_⟩
          · go_light
            try simp at *
            try subst_vars
            rw [Bool.eq_iff_iff]
            try simp [isT, kidsZ, isMu] at *
            first | done | omega | (split <;> omega) | (split <;> split <;> omega) | (split <;> split <;> split <;> omega)
          · first
              | exact Below.refl _ _
              | exact hb2
        -- SW>
      case rest => as_aux_lemma =>
        obtain ⟨rfl, rfl, hbc⟩ := hcut
        obtain ⟨q, hq⟩ : ∃ q, isT k n v c l.length = q := ⟨_, rfl⟩
        rw [hq] at HE ⊢
        have HB0 := Lib.hid (⟨hl0.trans (hbc.mono hl0.size), hb0.below hbc hb0.lt⟩ : Below w.heap.size w wc ∧ Blk wc w.heap.size box 39)
        have HOK0 := Lib.hid (show q = (q && !((l.take 0).any fun x => !x.ok)) by simp)
        have hlw := hl0.size
        clear hq hbc hb0 hl0 b0 b1 b2 b3 x0
        go_wp2_with fail
        go_loopw [5, 4] (fun u u4 wr => ∃ (i : Nat) (ok : Bool), i ≤ l.length ∧ u = .int .i64 i ∧ u4 = .bool ok ∧ Hid (ok = (q && !((l.take i).any fun x => !x.ok))) ∧ Hid (Below w.heap.size w wr ∧ Blk wr w.heap.size box 39)) (fun u _ _ => l.length - (intOf u).toNat)
        case atStart => exact ⟨0, q, Nat.zero_le _, rfl, rfl, HOK0, HB0⟩
        case round =>
          obtain ⟨i, ok, hil, rfl, rfl, HOK, HB⟩ := hrel
          have hbel := HB.out.1
          have hsz0 := hbel.size
          have x4 : wr.cell? ⟨w.heap.size, 4, none⟩ = some (.slice a l.length cap) := (HB.out.2.cell 4).trans b4
          by_cases hlt : i < l.length
          · have HT := Lib.hid (show (l.take (i + 1)).any (fun x => !x.ok) = ((l.take i).any (fun x => !x.ok) || !l[i].ok) by rw [List.take_succ_eq_append_getElem hlt, List.any_append]; simp)
            cases ok
            · have HF := Lib.hid (show false = (q && !((l.take (i + 1)).any fun x => !x.ok)) by
                rw [HT.out]
                have := HOK.out
                revert this
                cases q <;> cases (l.take i).any (fun x => !x.ok) <;> simp)
              go_wp2
              go_roundw
              case rel => exact ⟨i + 1, false, hlt, by go_num, rfl, HF, HB⟩
              case measure => simp [intOf]; omega
            · have hqa : q = true ∧ (l.take i).any (fun x => !x.ok) = false := by
                have := HOK.out
                revert this
                cases q <;> cases (l.take i).any (fun x => !x.ok) <;> simp
              have HQA := Lib.hid hqa
              obtain ⟨b, off, cap', us, hv, hb, hc, hcell, hus⟩ := H4.out.elem Ty.d_len rfl i hlt (by omega)
              injection hv with ha hn' hcap
              subst ha hcap
              have hsub : l[i].size ≤ N ∧ l[i].size ≤ 1048576 := by have := sizes_get l i hlt; have := HS.out; omega
              have HC := Lib.hid (IH.out l[i] us wr hsub.1 hsub.2 ((hus.keep hbel).mono hbel.size))
              obtain ⟨v4', hus', h4', -, -, -, -⟩ := Ty.cells hus
              obtain ⟨a2, cap2, rfl⟩ := h4'.slice_inv
              subst hus'
              have c0 := (hbel.cell (p := ⟨b, off + i * 5, none⟩) hb).trans (hcell 0 _ rfl)
              have c1 := (hbel.cell (p := ⟨b, off + i * 5 + 1, none⟩) hb).trans (hcell 1 _ rfl)
              have c2 := (hbel.cell (p := ⟨b, off + i * 5 + 2, none⟩) hb).trans (hcell 2 _ rfl)
              have c3 := (hbel.cell (p := ⟨b, off + i * 5 + 3, none⟩) hb).trans (hcell 3 _ rfl)
              have c4 := (hbel.cell (p := ⟨b, off + i * 5 + 4, none⟩) hb).trans (hcell 4 _ rfl)
              clear hcell hus h4' hqa hsub
              go_wp2_with fail
              refine HC.out.mono ?_
              rintro e w2 ⟨rfl, hb2⟩
              have HI2 := Lib.hid (⟨hbel.trans (hb2.mono hsz0), HB.out.2.below hb2 HB.out.2.lt⟩ : Below w.heap.size w w2 ∧ Blk w2 w.heap.size box 39)
              obtain ⟨r, hr⟩ : ∃ r, l[i].ok = r := ⟨_, rfl⟩
              have HF := Lib.hid (show r = (q && !((l.take (i + 1)).any fun x => !x.ok)) by rw [HT.out, HQA.out.1, HQA.out.2, hr]; simp)
              rw [hr]
              clear hr hb2
              go_wp2
              go_roundw
              case rel => exact ⟨i + 1, r, hlt, by go_num, rfl, HF, HI2⟩
              case measure => simp [intOf]; omega
          · have HF := Lib.hid (show ok = t.ok by rw [HE.out, HOK.out, List.take_of_length_le (by omega)])
            have e1 : decide ((i : Int) < (l.length : Int)) = false := decide_eq_false (by omega)
            go_wp2
            go_ret
            exact ⟨ret_b HF.out, hbel⟩

set_option maxHeartbeats 1000000 in
theorem rtymay_any (t : Ty) (us : List Value) (w : World) (hs : t.size ≤ 1048576) (hus : Rds w w.heap.size us t.d) :
    Calls Tryz.prog 11 #[.agg us.toArray] w fun e w' => e = .returned (.int .i64 (tyMay t)) ∧ Below w.heap.size w w' := by
  have HS := Lib.hid (fun (W : World) (hW : Below w.heap.size w W) => rsize_any t.size t us W (Nat.le_refl _) hs ((hus.keep hW).mono hW.size))
  have HM := Lib.hid (fun (W : World) (hW : Below w.heap.size w W) => ris_any t.size t us W (Nat.le_refl _) hs ((hus.keep hW).mono hW.size))
  obtain ⟨v4, rfl, h4, _⟩ := Ty.cells hus
  obtain ⟨a, cap, rfl⟩ := h4.slice_inv
  obtain ⟨OK, hOK⟩ : ∃ B, t.ok = B := ⟨_, rfl⟩
  have HOK := Lib.hid hOK
  rw [hOK] at HM
  have hbx := Blk.new w _ #[.int .u8 t.kind, .int .i64 t.n, .int .i64 t.v, .int .u8 t.c, .slice a t.l.length cap] 39 rfl
  clear hus h4 hOK
  go_enter Tryz.func11, Tryz.ntmps11
  go_wp2_with fail
  refine (HS.out _ ((Below.refl _ _).alloc (Nat.le_refl _) _)).mono ?_
  rintro e w2 ⟨rfl, hb2⟩
  have hb3 := ((Below.refl w.heap.size w).alloc (Nat.le_refl _) _).trans (hb2.mono (by simp))
  have hbx2 := hbx.below hb2 (by simp)
  by_cases h300 : 300 < t.size
  · have e1 : decide ((300 : Int) < (t.size : Int)) = true := decide_eq_true (by omega)
    go_wp2
    go_ret
    exact ⟨ret_i (by simp [tyMay, h300]), hb3⟩
  · have e1 : decide ((300 : Int) < (t.size : Int)) = false := decide_eq_false (by omega)
    have y0 := hbx2.cell 0
    have y1 := hbx2.cell 1
    have y2 := hbx2.cell 2
    have y3 := hbx2.cell 3
    have y4 := hbx2.cell 4
    simp only [List.getElem?_toArray, List.getElem?_cons_zero, List.getElem?_cons_succ] at y0 y1 y2 y3 y4
    go_wp2_with fail
    refine (HM.out _ hb3).mono ?_
    rintro e w3 ⟨rfl, hb4⟩
    have hb5 := hb3.trans (hb4.mono hb3.size)
    have HB5 := Lib.hid hb5
    cases OK
    all_goals
      go_wp2
      go_ret
      exact ⟨ret_i (by simp [tyMay, h300, HOK.out]), HB5.out⟩
end Go.Proofs.YtpndkjjkdeingaaGreatDoor
