/- Contracts: the reader's sign. -/
import Derived.Test.YtaojgcioljcpmaaGreatDoorLexG
namespace Go.Proofs.YtaojgcioljcpmaaGreatDoor
open Go.RowKit

theorem i64_wrap (n : Int) (h : -9223372036854775808 ≤ n ∧ n < 9223372036854775808) : IntKind.i64.wrap n = n := by rw [IntKind.wrap_i64]; omega
theorem sign_fact : ∀ k (h : k < T.signs.length), 1 ≤ (T.signs[k]'h).length ∧ (T.signs[k]'h).length ≤ 3 := by decide
theorem best_in (l : List U.Pt) (ss : List (List UInt8)) (b0 : List UInt8) (h0 : b0.length ≤ 3) (h : ∀ s ∈ ss, s.length ≤ 3) : (ss.foldl (T.better l) b0).length ≤ 3 := by
  induction ss generalizing b0 with
  | nil => exact h0
  | cons s t ih =>
    rw [List.foldl_cons]
    refine ih _ ?_ (fun x hx => h x (List.mem_cons_of_mem _ hx))
    unfold T.better
    split
    · exact h s (List.mem_cons_self ..)
    · exact h0
theorem best_fits (l : List U.Pt) (ss : List (List UInt8)) (b0 : List UInt8) (h0 : b0.length ≤ l.length) : (ss.foldl (T.better l) b0).length ≤ l.length := by
  induction ss generalizing b0 with
  | nil => exact h0
  | cons s t ih =>
    rw [List.foldl_cons]
    refine ih _ ?_
    unfold T.better
    split
    · next h => exact h.2.1
    · exact h0

theorem best_step (E : List U.Pt) (k : Nat) (h : k < T.signs.length) : (T.signs.take (k + 1)).foldl (T.better E) [] = T.better E ((T.signs.take k).foldl (T.better E) []) (T.signs[k]'h) := by
  rw [take_snoc' _ k h, List.foldl_append]; rfl

theorem held2_next {W0 w v : World} {a a' : Addr} {x x' : Value} (ha : a.block < W0.heap.size) (ha' : a'.block < W0.heap.size) (h : (w.cell? a = some x ∧ w.cell? a' = some x') ∧ Below W0.heap.size W0 w) (hb : Below w.heap.size w v) : (v.cell? a = some x ∧ v.cell? a' = some x') ∧ Below W0.heap.size W0 v :=
  ⟨⟨(hb.cell (Nat.lt_of_lt_of_le ha h.2.size)).trans h.1.1, (hb.cell (Nat.lt_of_lt_of_le ha' h.2.size)).trans h.1.2⟩, h.2.trans (hb.mono h.2.size)⟩

set_option maxHeartbeats 4000000 in
theorem sign_any (G b B i : Nat) (l : List U.Pt) (p : U.Pos) (w : World) (hT : Tabs G w) (_hG : G ≤ b) (h : ReadAt w b B l i 0 p) (hi : i < l.length) :
    Calls Tryz.prog 52 #[.pointer (some ⟨b, 0, none⟩)] w (Tells b B i l p w (T.sign (l.drop i))) := by
  have HR := Lib.hid h
  have hbw := h.lt
  have him := h.i_le
  have hsm := h.small
  have HI := Lib.hid hi
  obtain ⟨m, hm⟩ : ∃ m, l.length = m := ⟨_, rfl⟩
  obtain ⟨E, hE⟩ : ∃ E, l.drop i = E := ⟨_, rfl⟩
  have hEl : E.length = m - i := by rw [← hE, List.length_drop, hm]
  rw [hm] at him hsm hi
  obtain ⟨W1, hW1⟩ : ∃ W1, (w.alloc (.cells #[.int .u8 0, .string ⟨#[]⟩, .int .i64 0, .int .i64 0, .int .i64 0, .int .i64 0] 42)) = W1 := ⟨_, rfl⟩
  have hb1 : Below w.heap.size w W1 := by rw [← hW1]; exact (Below.refl _ _).alloc (Nat.le_refl _) _
  have hz1 : W1.heap.size = w.heap.size + 1 := by rw [← hW1]; simp
  have s1 : Blk W1 w.heap.size #[.int .u8 0, .string ⟨#[]⟩, .int .i64 0, .int .i64 0, .int .i64 0, .int .i64 0] 42 := by rw [← hW1]; exact Blk.new _ _ _ _ rfl
  have HS1 := Lib.hid s1
  have HB1 := Lib.hid hb1
  have HSG := Lib.hid (signs_any G W1 (hT.below (hb1.mono hT.le)))
  have HW1 := Lib.hid hW1
  have HM := Lib.hid hm
  have HE := Lib.hid hE
  have HEL := Lib.hid hEl
  clear hm hE hW1 hT h hb1 s1 hEl
  go_enter Tryz.func52, Tryz.ntmps52
  go_wp2_with fail
  rw [HW1.out]
  refine HSG.out.mono ?_
  rintro _ w2 ⟨A, rfl, hA, hst, hb2⟩
  have hb12 : Below w.heap.size w w2 := HB1.out.trans (hb2.mono (by omega))
  have HB2 := Lib.hid hb12
  have HRS := Lib.hid (HS1.out.below hb2 (by omega))
  have HRD := Lib.hid (HR.out.keep hb12)
  have HST := Lib.hid hst
  have hz2 : w.heap.size + 1 ≤ w2.heap.size := by rw [← hz1]; exact hb2.size
  clear hb12 hst hb2
  go_wp2
  go_loopw [8, 3] (fun u v wr => ∃ (k : Nat) (best : List UInt8), k ≤ 22 ∧ u = .int .i64 k ∧ v = .string ⟨best.toArray⟩ ∧ Hid (best = (T.signs.take k).foldl (T.better E) []) ∧ Hid (best.length ≤ 3) ∧ Below w2.heap.size w2 wr) (fun u _ _ => 22 - (intOf u).toNat)
  case atStart => exact ⟨0, [], by omega, rfl, rfl, rfl, by show (_ : Nat) ≤ _; simp, Below.refl _ _⟩
  case round =>
    obtain ⟨k, best, hk, rfl, rfl, HBE, HB3, hbel⟩ := hrel
    by_cases hlt : k < 22
    · have hkl : k < T.signs.length := hlt
      obtain ⟨s, hs⟩ : ∃ s, T.signs[k]'hkl = s := ⟨_, rfl⟩
      have hs13 := sign_fact k hkl
      rw [hs] at hs13
      have cA := (hbel.cell (p := ⟨A, k, none⟩) HST.out.1).trans (HST.out.2 k s (by rw [List.getElem?_eq_getElem hkl, hs]))
      have HS := Lib.hid hs
      have hk22 : (k : Int) < 22 := by omega
      have hrd := HRD.out.keep hbel
      obtain ⟨a, c, ⟨d0, d1, _, _, _, _⟩, _, hrow⟩ := hrd.cells
      rw [HM.out] at d0
      have HRW := Lib.hid hrd
      have HROW := Lib.hid hrow
      have hb3 := HB3.out
      clear hs hrd hrow
      by_cases t1 : best.length < s.length
      · have t1d : decide (best.length < s.length) = true := decide_eq_true t1
        by_cases t2 : s.length ≤ m - i
        · have hmi : (s.length : Int) ≤ (m : Int) - (i : Int) := by omega
          have t2d : decide ((s.length : Int) ≤ (m : Int) - (i : Int)) = true := decide_eq_true hmi
          obtain ⟨g, off, rfl, hg, hc, _, _, _, _⟩ := HROW.out.at i HI.out
          rw [HM.out] at hc
          obtain ⟨X, hX⟩ : ∃ X, T.textOf (E.take s.length) = X := ⟨_, rfl⟩
          have hBw : B ≤ wr.heap.size := by have h1 := HRW.out.below; have h2 := HRW.out.lt; omega
          have hok : ∀ x ∈ E.take s.length, Lib.validRune x.r = true := fun x hx => HRW.out.ok x (by rw [← HE.out] at hx; exact List.mem_of_mem_drop (List.mem_of_mem_take hx))
          have hps : Pts wr B (some ⟨g, off + i * 4, none⟩) (c - i) (E.take s.length) := by
            have := HROW.out.sub i (i + s.length) (by omega) (by rw [HM.out]; omega)
            rw [HE.out, Nat.add_sub_cancel_left] at this
            exact this
          have htx : ∀ W, Below wr.heap.size wr W → Calls Tryz.prog 78 #[.slice (some ⟨g, off + i * 4, none⟩) s.length (c - i)] W fun e w' => e = .returned (.string ⟨X.toArray⟩) ∧ Below W.heap.size W w' := by
            intro W hW
            rw [← hX]
            exact text_any (E.take s.length) s.length (by rw [List.length_take, HEL.out]; omega) _ _ W ((hps.below (hW.mono hBw)).mono (Nat.le_trans hBw hW.size)) (by omega) hok
          have HTX := Lib.hid htx
          have HX := Lib.hid hX
          have hci : ¬ c = i := by omega
          have hci' : ¬ i = c := by omega
          have hbwr : b < wr.heap.size := HRW.out.lt
          clear htx hps hok hX
          have wr1 : IntKind.i64.wrap ((m : Int) - (i : Int)) = (m : Int) - (i : Int) := i64_wrap _ (by omega)
          have wr2 : IntKind.i64.wrap ((i : Int) + (s.length : Int)) = (i : Int) + (s.length : Int) := i64_wrap _ (by omega)
          have hI0 : (0 : Int) ≤ (i : Int) := by omega
          have hI1 : (i : Int) ≤ (i : Int) + (s.length : Int) := by omega
          have hI2 : (i : Int) + (s.length : Int) ≤ (c : Int) := by omega
          have hI3 : ((i : Int) + (s.length : Int)).toNat = i + s.length := by omega
          have hI4 : i + s.length - i = s.length := by omega
          by_cases hXs : X = s
          · subst hXs
            go_wp2
            go_region_held3 (fun w' => (w'.cell? ⟨b, 0, none⟩ = some (.slice (some ⟨g, off, none⟩) m c) ∧ w'.cell? ⟨b, 1, none⟩ = some (.int .i64 i)) ∧ Below wr.heap.size wr w') (first | assumption | exact ⟨⟨d0, d1⟩, Below.refl _ _⟩ | exact ⟨⟨d0, d1⟩, (Below.refl _ _).drew⟩ | exact held2_next hbwr hbwr ‹_ ∧ Below wr.heap.size wr _› ‹Below _ _ _›) (first | (go_at_call 78; refine (HTX.out _ (And.right ‹_ ∧ Below wr.heap.size wr _›)).mono ?_; rintro _ w5 ⟨rfl, hb5⟩))
            have hB5 := And.right ‹_ ∧ Below wr.heap.size wr _›
            go_wp2
            go_roundw
            case rel =>
              refine ⟨k + 1, X, by omega, by go_num, rfl, ?_, hs13.2, hbel.trans (hB5.mono hbel.size)⟩
              show _ = _
              rw [best_step E k hkl, ← HBE.out, HS.out]
              unfold T.better
              rw [if_pos ⟨t1, by rw [HEL.out]; exact t2, HX.out⟩]
            case measure => simp [intOf]; omega
          · have hne : (X == s) = false := by rw [beq_eq_false_iff_ne]; exact hXs
            have HXS := Lib.hid hXs
            go_wp2
            go_region_held3 (fun w' => (w'.cell? ⟨b, 0, none⟩ = some (.slice (some ⟨g, off, none⟩) m c) ∧ w'.cell? ⟨b, 1, none⟩ = some (.int .i64 i)) ∧ Below wr.heap.size wr w') (first | assumption | exact ⟨⟨d0, d1⟩, Below.refl _ _⟩ | exact ⟨⟨d0, d1⟩, (Below.refl _ _).drew⟩ | exact held2_next hbwr hbwr ‹_ ∧ Below wr.heap.size wr _› ‹Below _ _ _›) (first | (go_at_call 78; refine (HTX.out _ (And.right ‹_ ∧ Below wr.heap.size wr _›)).mono ?_; rintro _ w5 ⟨rfl, hb5⟩))
            have hB5 := And.right ‹_ ∧ Below wr.heap.size wr _›
            go_wp2
            go_roundw
            case rel =>
              refine ⟨k + 1, best, by omega, by go_num, rfl, ?_, HB3.out, hbel.trans (hB5.mono hbel.size)⟩
              show _ = _
              rw [best_step E k hkl, ← HBE.out, HS.out]
              unfold T.better
              rw [if_neg (fun hh => HXS.out (HX.out.symm.trans hh.2.2))]
            case measure => simp [intOf]; omega
        · have t2d : decide ((s.length : Int) ≤ (m : Int) - (i : Int)) = false := decide_eq_false (by omega)
          go_wp2
          go_quiet (fail)
          go_wp2
          go_roundw
          case rel =>
            refine ⟨k + 1, best, by omega, by go_num, rfl, ?_, HB3.out, Below.drewN hbel _⟩
            show _ = _
            rw [best_step E k hkl, ← HBE.out, HS.out]
            unfold T.better
            rw [if_neg (fun hh => t2 (by have h2 := hh.2.1; rw [HEL.out] at h2; exact h2))]
          case measure => simp [intOf]; omega
      · have t1d : decide (best.length < s.length) = false := decide_eq_false t1
        go_wp2
        go_quiet (fail)
        go_wp2
        go_roundw
        case rel =>
          refine ⟨k + 1, best, by omega, by go_num, rfl, ?_, HB3.out, Below.drewN hbel _⟩
          show _ = _
          rw [best_step E k hkl, ← HBE.out, HS.out]
          unfold T.better
          rw [if_neg (fun hh => t1 hh.1)]
        case measure => simp [intOf]; omega
    · have hk22 : k = 22 := by omega
      subst hk22
      obtain ⟨q, hq⟩ : ∃ q, T.bestOf E T.signs = q := ⟨_, rfl⟩
      have hbq : best = q := by rw [HBE.out, ← hq]; rfl
      have hfit : q.length ≤ m - i := by rw [← hq, ← HEL.out]; exact best_fits E T.signs [] (by simp)
      have hrd := HRD.out.keep hbel
      have hks := HRS.out.below hbel HRS.out.lt
      have hkk : Keep b w wr := (Keep.of_below HB2.out).below hbel
      have HQ := Lib.hid hq
      subst hbq
      clear hq
      obtain ⟨a, c, ⟨d0, d1, _, _, _, _⟩, hf, _⟩ := hrd.cells
      have f1 := hf 1
      clear hf
      by_cases hemp : best = []
      · have hword : T.sign (l.drop i) = .bad 100 (T.headP (l.drop i)) := by
          unfold T.sign
          rw [HE.out, HQ.out, if_pos hemp]
        have HWO := Lib.hid hword
        clear hword
        subst hemp
        have HRF := Lib.hid hrd
        have HKF := Lib.hid hkk
        have HRS := Lib.hid hks
        go_wp2_with (go_at_call 79; refine (fails_at b B i i l 100 p _ HRF.out HI.out).mono ?_; rintro _ w4 ⟨rfl, hrd4, hkp4⟩; have rwb := HRS.out.keep hkp4 (by omega); have g0 := rwb.cell 0; have k0 := rwb.free 0; have g1 := rwb.cell 1; have k1 := rwb.free 1; have g2 := rwb.cell 2; have k2 := rwb.free 2; have g3 := rwb.cell 3; have k3 := rwb.free 3; have g4 := rwb.cell 4; have k4 := rwb.free 4; have g5 := rwb.cell 5; have k5 := rwb.free 5; simp only [List.getElem?_toArray, List.getElem?_cons_zero, List.getElem?_cons_succ] at g0 g1 g2 g3 g4 g5; clear rwb)
        go_wp2
        refine bodyPost_ret (v := tokZ) (by simp [results, Tryz.results52, go_sem, tokZ, g0, g1, g2, g3, g4, g5]; rfl) rfl ?_
        rw [HWO.out, headP_drop l i HI.out]
        have HR4 := Lib.hid hrd4
        refine ⟨rfl, ⟨i, ?_⟩, ?_⟩
        · (repeat (with_reducible first | exact HR4.out | refine ReadAt.setOther ?_ ?_ _ | refine ReadAt.alloc ?_ _)) <;> (simp; omega)
        · (repeat (with_reducible first | exact HKF.out.trans hkp4 | refine Keep.setNew ?_ ?_ _ | refine Keep.alloc ?_ _)) <;> simp
      · have hword : T.sign (l.drop i) = .ok ⟨5, best, 0, T.headP (l.drop i)⟩ best.length := by
          unfold T.sign
          rw [HE.out, HQ.out, if_neg hemp]
        have HWO := Lib.hid hword
        have hbe : (best == []) = false := by rw [beq_eq_false_iff_ne]; exact hemp
        have HEMP := Lib.hid hemp
        clear hword hemp
        have g0 := hks.cell 0; have k0 := hks.free 0; have g1 := hks.cell 1; have k1 := hks.free 1; have g2 := hks.cell 2; have k2 := hks.free 2; have g3 := hks.cell 3; have k3 := hks.free 3; have g4 := hks.cell 4; have k4 := hks.free 4; have g5 := hks.cell 5; have k5 := hks.free 5
        simp only [List.getElem?_toArray, List.getElem?_cons_zero, List.getElem?_cons_succ] at g0 g1 g2 g3 g4 g5
        have HRD2 := Lib.hid hrd
        have HKK := Lib.hid hkk
        clear hks hrd hkk
        go_wp2
        refine bodyPost_ret (v := tokN ⟨5, best, 0, U.zero⟩) (by simp [results, Tryz.results52, go_sem, tokN, g0, g1, g2, g3, g4, g5]) rfl ?_
        rw [HWO.out]
        have hmv := HRD2.out.move (j := i + best.length) (by rw [HM.out]; omega) ((i : Int) + (best.length : Int)) (by omega)
        have HR4 := Lib.hid hmv
        have HK4 := Lib.hid (HKK.out.setOwn 1 (.int .i64 ((i : Int) + (best.length : Int))))
        refine ⟨rfl, ?_, ?_⟩
        · (repeat (with_reducible first | exact HR4.out | refine ReadAt.setOther ?_ ?_ _ | refine ReadAt.alloc ?_ _)) <;> (simp; omega)
        · (repeat (with_reducible first | exact HK4.out | refine Keep.setNew ?_ ?_ _ | refine Keep.alloc ?_ _)) <;> simp
end Go.Proofs.YtaojgcioljcpmaaGreatDoor
