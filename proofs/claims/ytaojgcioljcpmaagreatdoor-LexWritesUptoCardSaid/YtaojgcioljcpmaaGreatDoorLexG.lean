/- Contracts: the reader's number, walked. -/
import Derived.Test.YtaojgcioljcpmaaGreatDoorLexF
namespace Go.Proofs.YtaojgcioljcpmaaGreatDoor
open Go.RowKit



set_option maxHeartbeats 4000000 in
theorem number_any (G b B i : Nat) (l : List U.Pt) (p : U.Pos) (w : World) (hT : Tabs G w) (hG : G ≤ b) (h : ReadAt w b B l i 0 p) (hi : i < l.length) (hkd : T.kindR (l[i]'hi).r = 2) :
    Calls Tryz.prog 55 #[.pointer (some ⟨b, 0, none⟩)] w (Tells b B i l p w (T.number (l.drop i))) := by
  have HR := Lib.hid h
  have hbw := h.lt
  obtain ⟨a, c, ⟨c0, c1, _, _, _, _⟩, _, hrow⟩ := h.cells
  have him := h.i_le
  have hsm := h.small
  have HI := Lib.hid hi
  obtain ⟨r0, hr0⟩ : ∃ r, (l[i]'hi).r = r := ⟨_, rfl⟩
  obtain ⟨r1, hr1⟩ : ∃ r, T.peek (l.drop i) 1 = r := ⟨_, rfl⟩
  obtain ⟨N, hN⟩ : ∃ N, T.count [2] (l.drop i) = N := ⟨_, rfl⟩
  obtain ⟨D, hD⟩ : ∃ D, (l.drop i).take N = D := ⟨_, rfl⟩
  have hpk : T.peek (l.drop i) 0 = r0 := by rw [peek_at l i 0 hi]; exact hr0
  have hN1 : 1 ≤ N := by
    rw [← hN, count_in _ _ i hi (by simp [T.isIn, hkd])]; omega
  have hNl : N ≤ l.length - i := by rw [← hN, ← List.length_drop]; exact T.count_le _ _
  have hdl : D.length = N := by rw [← hD, List.length_take, List.length_drop]; omega
  have HNE := Lib.hid (show D ≠ [] by intro hh; rw [hh] at hdl; simp at hdl; omega)
  have HDL := Lib.hid (show D.length ≤ 20000 by omega)
  have HDD := Lib.hid (show ∀ x ∈ D, 48 ≤ x.r ∧ x.r ≤ 57 by
    intro x hx
    rw [← hD, ← hN] at hx
    have := count_all _ _ x hx
    exact kind_digit (by simpa [T.isIn] using this))
  obtain ⟨W1, hW1⟩ : ∃ W1, (w.alloc (.cells #[.int .u8 0, .string ⟨#[]⟩, .int .i64 0, .int .i64 0, .int .i64 0, .int .i64 0] 42)) = W1 := ⟨_, rfl⟩
  have hb1 : Below w.heap.size w W1 := by rw [← hW1]; exact (Below.refl _ _).alloc (Nat.le_refl _) _
  have hz1 : W1.heap.size = w.heap.size + 1 := by rw [← hW1]; simp
  have s1 : Blk W1 w.heap.size #[.int .u8 0, .string ⟨#[]⟩, .int .i64 0, .int .i64 0, .int .i64 0, .int .i64 0] 42 := by rw [← hW1]; exact Blk.new _ _ _ _ rfl
  have HS1 := Lib.hid s1
  have HB1 := Lib.hid hb1
  have hwh : ∀ (W : World) (kb : Nat), ReadAt W b B l i 0 p → kb < W.heap.size → kb ≠ b → (∀ j, j < 1 → W.cell? ⟨kb, 0 + j, none⟩ = some (.int .i64 (([2] : List Int).getD j 0))) →
      Calls Tryz.prog 50 #[.pointer (some ⟨b, 0, none⟩), .slice (some ⟨kb, 0, none⟩) 1 1] W fun o w' => o = .returned (.string ⟨(T.textOf D).toArray⟩) ∧ ReadAt w' b B l (i + N) 0 p ∧ Keep b W w' := by
    intro W kb h1 h2 h3 h4
    have := while_any b B i kb 1 [2] l 0 p W h1 h2 h3 h4 (by decide)
    rw [hN, hD] at this
    exact this
  have hp0 : Calls Tryz.prog 51 #[.pointer (some ⟨b, 0, none⟩), .int .i64 0] W1 fun o w' => o = .returned (.int .i32 r0) ∧ ∃ k, w' = W1.drewN k := by
    rw [← hpk]; exact peek_any b B i 0 l 0 p W1 (h.keep hb1) (by omega)
  have hp1 : ∀ m, Calls Tryz.prog 51 #[.pointer (some ⟨b, 0, none⟩), .int .i64 1] (W1.drewN m) fun o w' => o = .returned (.int .i32 r1) ∧ ∃ k, w' = (W1.drewN m).drewN k := fun m => by
    rw [← hr1]; exact peek_any b B i 1 l 0 p _ ((h.keep hb1).drewN m) (by omega)
  have HW1 := Lib.hid hW1
  have HP0 := Lib.hid hp0
  have HP1 := Lib.hid hp1
  have HPK := Lib.hid hpk
  have HR1 := Lib.hid hr1
  have HN := Lib.hid hN
  have HD := Lib.hid hD
  have HT := Lib.hid hT
  have HWH := Lib.hid hwh
  clear hr0 hr1 hN hD hpk hp0 hp1 hT hi hrow hW1 hwh h hkd hb1 s1 hdl
  go_enter Tryz.func55, Tryz.ntmps55
  go_wp2_with fail
  rw [HW1.out]
  refine HP0.out.mono ?_
  rintro _ _ ⟨rfl, m0, rfl⟩
  by_cases h48 : r0 = 48
  · subst h48
    by_cases hk1 : T.kindR r1 = 2
    · have hword : T.number (l.drop i) = .bad 100 (T.headP (l.drop i)) := by
        unfold T.number
        rw [if_pos ⟨HPK.out, by rw [HR1.out]; exact hk1⟩]
      have HWO := Lib.hid hword
      clear hword
      go_wp2_with fail
      refine (HP1.out _).mono ?_
      rintro _ _ ⟨rfl, m1, rfl⟩
      go_wp2_with fail
      refine (kind_any r1 _).mono ?_
      rintro _ _ ⟨rfl, rfl⟩
      have HRF := Lib.hid ((HR.out.keep HB1.out).drewN (m0 + m1))
      have HKF := Lib.hid ((Keep.of_below (b := b) HB1.out).drewN (m0 + m1))
      have HRS := Lib.hid (show Blk (W1.drewN (m0 + m1)) _ _ _ from HS1.out)
      go_wp2_with (go_at_call 79; refine (fails_at b B i i l 100 p _ HRF.out HI.out).mono ?_; rintro _ w4 ⟨rfl, hrd4, hkp4⟩; have rwb := HRS.out.keep hkp4 (by omega); have g0 := rwb.cell 0; have k0 := rwb.free 0; have g1 := rwb.cell 1; have k1 := rwb.free 1; have g2 := rwb.cell 2; have k2 := rwb.free 2; have g3 := rwb.cell 3; have k3 := rwb.free 3; have g4 := rwb.cell 4; have k4 := rwb.free 4; have g5 := rwb.cell 5; have k5 := rwb.free 5; simp only [List.getElem?_toArray, List.getElem?_cons_zero, List.getElem?_cons_succ] at g0 g1 g2 g3 g4 g5; clear rwb)
      go_wp2
      refine bodyPost_ret (v := tokZ) (by simp [results, Tryz.results55, go_sem, tokZ, g0, g1, g2, g3, g4, g5]; rfl) rfl ?_
      rw [HWO.out, headP_drop l i HI.out]
      have HR4 := Lib.hid hrd4
      refine ⟨rfl, ⟨i, ?_⟩, ?_⟩
      · (repeat (with_reducible first | exact HR4.out | refine ReadAt.setOther ?_ ?_ _ | refine ReadAt.alloc ?_ _)) <;> (simp; omega)
      · (repeat (with_reducible first | exact HKF.out.trans hkp4 | refine Keep.setNew ?_ ?_ _ | refine Keep.alloc ?_ _)) <;> simp
    · have hk1' : (T.kindR r1 == 2) = false := by rw [beq_eq_false_iff_ne]; exact hk1
      have HKK := Lib.hid (show ¬ (T.peek (l.drop i) 0 = 48 ∧ T.kindR (T.peek (l.drop i) 1) = 2) by rw [HR1.out]; exact fun hh => hk1 hh.2)
      clear hk1
      go_wp2_with fail
      refine (HP1.out _).mono ?_
      rintro _ _ ⟨rfl, m1, rfl⟩
      go_wp2_with fail
      refine (kind_any r1 _).mono ?_
      rintro _ _ ⟨rfl, rfl⟩
      have hbV : Below w.heap.size w ((W1.drewN (m0 + m1)).alloc (.cells #[.int .i64 2] 3)) := by
        (repeat (with_reducible first | exact HB1.out | refine Below.setCell ?_ ?_ _ | refine Below.alloc ?_ ?_ _ | refine Below.drewN ?_ _ | refine Below.drew ?_)) <;> first | omega | (simp; omega) | (simp; done)
      have hsV : ((W1.drewN (m0 + m1)).alloc (.cells #[.int .i64 2] 3)).heap.size = w.heap.size + 2 := by simp [hz1]
      have hrV : Blk ((W1.drewN (m0 + m1)).alloc (.cells #[.int .i64 2] 3)) w.heap.size #[.int .u8 0, .string ⟨#[]⟩, .int .i64 0, .int .i64 0, .int .i64 0, .int .i64 0] 42 := HS1.out.alloc _
      have hcV : ∀ j, j < 1 → ((W1.drewN (m0 + m1)).alloc (.cells #[.int .i64 2] 3)).cell? ⟨w.heap.size + 1, 0 + j, none⟩ = some (.int .i64 (([2] : List Int).getD j 0)) := by
        intro j hj
        have hb : Blk ((W1.drewN (m0 + m1)).alloc (.cells #[.int .i64 2] 3)) (w.heap.size + 1) #[.int .i64 2] 3 := Blk.new _ _ _ _ (by simp [hz1])
        rw [Nat.zero_add, hb.cell j]
        match j, hj with
        | 0, _ => rfl
      have hfs : (W1.drewN (m0 + m1)).heap.size = w.heap.size + 1 := by simp [hz1]
      have HFS := Lib.hid hfs
      have HWV := Lib.hid (HWH.out ((W1.drewN (m0 + m1)).alloc (.cells #[.int .i64 2] 3)) (w.heap.size + 1) (HR.out.keep hbV) (by rw [hsV]; omega) (by omega) hcV)
      have HBV := Lib.hid hbV
      have HSV := Lib.hid hsV
      have HRV := Lib.hid hrV
      clear hbV hsV hrV hcV hfs
      go_wp2_with fail
      refine HWV.out.mono ?_
      rintro _ w1 ⟨rfl, hrd1, hk1⟩
      have hkw1 : Keep b w w1 := (Keep.of_below HBV.out).trans hk1
      have hrw1 : Blk w1 w.heap.size #[.int .u8 0, .string ⟨#[]⟩, .int .i64 0, .int .i64 0, .int .i64 0, .int .i64 0] 42 := HRV.out.keep hk1 (by omega)
      have hT1 : Tabs G w1 := HT.out.below (hkw1.low hG hbw)
      have HRD := Lib.hid hrd1
      have HK1 := Lib.hid hkw1
      have HW1R := Lib.hid hrw1
      have HTT := Lib.hid hT1
      clear hrd1 hkw1 hrw1 hT1 hk1
      by_cases hbig : 9223372036854775807 < T.numOf D
      · have hword : T.number (l.drop i) = .bad 101 (T.headP (l.drop i)) := by
          unfold T.number
          rw [if_neg HKK.out]
          simp only [HN.out, HD.out]
          rw [if_pos (by omega)]
        have HWO := Lib.hid hword
        clear hword
        have HPR := Lib.hid (parse_range G D HNE.out HDD.out HDL.out w1 HTT.out hbig)
        go_wp2_with fail
        refine HPR.out.mono ?_
        rintro _ w3 ⟨v3, t3, q3, rfl, hb3⟩
        go_wp2_with fail
        have HRF := Lib.hid (HRD.out.keep hb3)
        have HKF := Lib.hid (HK1.out.below hb3)
        have HRS := Lib.hid (HW1R.out.below hb3 HW1R.out.lt)
        go_wp2_with (go_at_call 79; refine (fails_at b B (i + N) i l 101 p _ HRF.out HI.out).mono ?_; rintro _ w4 ⟨rfl, hrd4, hkp4⟩; have rwb := HRS.out.keep hkp4 (by omega); have g0 := rwb.cell 0; have k0 := rwb.free 0; have g1 := rwb.cell 1; have k1 := rwb.free 1; have g2 := rwb.cell 2; have k2 := rwb.free 2; have g3 := rwb.cell 3; have k3 := rwb.free 3; have g4 := rwb.cell 4; have k4 := rwb.free 4; have g5 := rwb.cell 5; have k5 := rwb.free 5; simp only [List.getElem?_toArray, List.getElem?_cons_zero, List.getElem?_cons_succ] at g0 g1 g2 g3 g4 g5; clear rwb)
        go_wp2
        refine bodyPost_ret (v := tokZ) (by simp [results, Tryz.results55, go_sem, tokZ, g0, g1, g2, g3, g4, g5]; rfl) rfl ?_
        rw [HWO.out, headP_drop l i HI.out]
        have HR4 := Lib.hid hrd4
        refine ⟨rfl, ⟨(i + N), ?_⟩, ?_⟩
        · (repeat (with_reducible first | exact HR4.out | refine ReadAt.setOther ?_ ?_ _ | refine ReadAt.alloc ?_ _)) <;> (simp; omega)
        · (repeat (with_reducible first | exact HKF.out.trans hkp4 | refine Keep.setNew ?_ ?_ _ | refine Keep.alloc ?_ _)) <;> simp
      · have HPO := Lib.hid (parse_ok D HNE.out HDD.out HDL.out w1 (by omega))
        obtain ⟨n, hn⟩ : ∃ n, T.numOf D = n := ⟨_, rfl⟩
        rw [hn] at HPO hbig
        have HNN := Lib.hid hn
        clear hn
        by_cases h40 : 1099511627776 < n
        · have hword : T.number (l.drop i) = .bad 101 (T.headP (l.drop i)) := by
            unfold T.number
            rw [if_neg HKK.out]
            simp only [HN.out, HD.out, HNN.out]
            rw [if_pos h40]
          have HWO := Lib.hid hword
          have h40d : decide (1099511627776 < n) = true := decide_eq_true h40
          have h40i : decide ((1099511627776 : Int) < (n : Int)) = true := by rw [decide_eq_true_eq]; omega
          clear hword
          go_wp2_with fail
          refine HPO.out.mono ?_
          rintro _ w3 ⟨rfl, hb3⟩
          go_wp2_with fail
          have HRF := Lib.hid (HRD.out.keep hb3)
          have HKF := Lib.hid (HK1.out.below hb3)
          have HRS := Lib.hid (HW1R.out.below hb3 HW1R.out.lt)
          go_wp2_with (go_at_call 79; refine (fails_at b B (i + N) i l 101 p _ HRF.out HI.out).mono ?_; rintro _ w4 ⟨rfl, hrd4, hkp4⟩; have rwb := HRS.out.keep hkp4 (by omega); have g0 := rwb.cell 0; have k0 := rwb.free 0; have g1 := rwb.cell 1; have k1 := rwb.free 1; have g2 := rwb.cell 2; have k2 := rwb.free 2; have g3 := rwb.cell 3; have k3 := rwb.free 3; have g4 := rwb.cell 4; have k4 := rwb.free 4; have g5 := rwb.cell 5; have k5 := rwb.free 5; simp only [List.getElem?_toArray, List.getElem?_cons_zero, List.getElem?_cons_succ] at g0 g1 g2 g3 g4 g5; clear rwb)
          go_wp2
          refine bodyPost_ret (v := tokZ) (by simp [results, Tryz.results55, go_sem, tokZ, g0, g1, g2, g3, g4, g5]; rfl) rfl ?_
          rw [HWO.out, headP_drop l i HI.out]
          have HR4 := Lib.hid hrd4
          refine ⟨rfl, ⟨(i + N), ?_⟩, ?_⟩
          · (repeat (with_reducible first | exact HR4.out | refine ReadAt.setOther ?_ ?_ _ | refine ReadAt.alloc ?_ _)) <;> (simp; omega)
          · (repeat (with_reducible first | exact HKF.out.trans hkp4 | refine Keep.setNew ?_ ?_ _ | refine Keep.alloc ?_ _)) <;> simp
        · have hword : T.number (l.drop i) = .ok ⟨3, [], n, T.headP (l.drop i)⟩ N := by
            unfold T.number
            rw [if_neg HKK.out]
            simp only [HN.out, HD.out, HNN.out]
            rw [if_neg h40]
          have HWO := Lib.hid hword
          have h40d : decide (1099511627776 < n) = false := decide_eq_false h40
          have h40i : decide ((1099511627776 : Int) < (n : Int)) = false := by rw [decide_eq_false_iff_not]; omega
          clear hword
          go_wp2_with fail
          refine HPO.out.mono ?_
          rintro _ w3 ⟨rfl, hb3⟩
          have rwb := HW1R.out.below hb3 HW1R.out.lt
          have g0 := rwb.cell 0; have k0 := rwb.free 0; have g1 := rwb.cell 1; have k1 := rwb.free 1; have g2 := rwb.cell 2; have k2 := rwb.free 2; have g3 := rwb.cell 3; have k3 := rwb.free 3; have g4 := rwb.cell 4; have k4 := rwb.free 4; have g5 := rwb.cell 5; have k5 := rwb.free 5
          simp only [List.getElem?_toArray, List.getElem?_cons_zero, List.getElem?_cons_succ] at g0 g1 g2 g3 g4 g5
          clear rwb
          go_wp2
          refine bodyPost_ret (v := tokN ⟨3, [], n, U.zero⟩) (by simp [results, Tryz.results55, go_sem, tokN, g0, g1, g2, g3, g4, g5]) rfl ?_
          rw [HWO.out]
          have HR4 := Lib.hid (HRD.out.keep hb3)
          have HK4 := Lib.hid (HK1.out.below hb3)
          refine ⟨rfl, ?_, ?_⟩
          · (repeat (with_reducible first | exact HR4.out | refine ReadAt.setOther ?_ ?_ _ | refine ReadAt.alloc ?_ _)) <;> (simp; omega)
          · (repeat (with_reducible first | exact HK4.out | refine Keep.setNew ?_ ?_ _ | refine Keep.alloc ?_ _)) <;> simp
  · have h48' : (r0 == 48) = false := by rw [beq_eq_false_iff_ne]; exact h48
    have HKK := Lib.hid (show ¬ (T.peek (l.drop i) 0 = 48 ∧ T.kindR (T.peek (l.drop i) 1) = 2) by rw [HPK.out]; exact fun hh => h48 hh.1)
    clear h48
    have hbV : Below w.heap.size w ((W1.drewN m0).alloc (.cells #[.int .i64 2] 3)) := by
      (repeat (with_reducible first | exact HB1.out | refine Below.setCell ?_ ?_ _ | refine Below.alloc ?_ ?_ _ | refine Below.drewN ?_ _ | refine Below.drew ?_)) <;> first | omega | (simp; omega) | (simp; done)
    have hsV : ((W1.drewN m0).alloc (.cells #[.int .i64 2] 3)).heap.size = w.heap.size + 2 := by simp [hz1]
    have hrV : Blk ((W1.drewN m0).alloc (.cells #[.int .i64 2] 3)) w.heap.size #[.int .u8 0, .string ⟨#[]⟩, .int .i64 0, .int .i64 0, .int .i64 0, .int .i64 0] 42 := HS1.out.alloc _
    have hcV : ∀ j, j < 1 → ((W1.drewN m0).alloc (.cells #[.int .i64 2] 3)).cell? ⟨w.heap.size + 1, 0 + j, none⟩ = some (.int .i64 (([2] : List Int).getD j 0)) := by
      intro j hj
      have hb : Blk ((W1.drewN m0).alloc (.cells #[.int .i64 2] 3)) (w.heap.size + 1) #[.int .i64 2] 3 := Blk.new _ _ _ _ (by simp [hz1])
      rw [Nat.zero_add, hb.cell j]
      match j, hj with
      | 0, _ => rfl
    have hfs : (W1.drewN m0).heap.size = w.heap.size + 1 := by simp [hz1]
    have HFS := Lib.hid hfs
    have HWV := Lib.hid (HWH.out ((W1.drewN m0).alloc (.cells #[.int .i64 2] 3)) (w.heap.size + 1) (HR.out.keep hbV) (by rw [hsV]; omega) (by omega) hcV)
    have HBV := Lib.hid hbV
    have HSV := Lib.hid hsV
    have HRV := Lib.hid hrV
    clear hbV hsV hrV hcV hfs
    go_wp2_with fail
    refine HWV.out.mono ?_
    rintro _ w1 ⟨rfl, hrd1, hk1⟩
    have hkw1 : Keep b w w1 := (Keep.of_below HBV.out).trans hk1
    have hrw1 : Blk w1 w.heap.size #[.int .u8 0, .string ⟨#[]⟩, .int .i64 0, .int .i64 0, .int .i64 0, .int .i64 0] 42 := HRV.out.keep hk1 (by omega)
    have hT1 : Tabs G w1 := HT.out.below (hkw1.low hG hbw)
    have HRD := Lib.hid hrd1
    have HK1 := Lib.hid hkw1
    have HW1R := Lib.hid hrw1
    have HTT := Lib.hid hT1
    clear hrd1 hkw1 hrw1 hT1 hk1
    by_cases hbig : 9223372036854775807 < T.numOf D
    · have hword : T.number (l.drop i) = .bad 101 (T.headP (l.drop i)) := by
        unfold T.number
        rw [if_neg HKK.out]
        simp only [HN.out, HD.out]
        rw [if_pos (by omega)]
      have HWO := Lib.hid hword
      clear hword
      have HPR := Lib.hid (parse_range G D HNE.out HDD.out HDL.out w1 HTT.out hbig)
      go_wp2_with fail
      refine HPR.out.mono ?_
      rintro _ w3 ⟨v3, t3, q3, rfl, hb3⟩
      go_wp2_with fail
      have HRF := Lib.hid (HRD.out.keep hb3)
      have HKF := Lib.hid (HK1.out.below hb3)
      have HRS := Lib.hid (HW1R.out.below hb3 HW1R.out.lt)
      go_wp2_with (go_at_call 79; refine (fails_at b B (i + N) i l 101 p _ HRF.out HI.out).mono ?_; rintro _ w4 ⟨rfl, hrd4, hkp4⟩; have rwb := HRS.out.keep hkp4 (by omega); have g0 := rwb.cell 0; have k0 := rwb.free 0; have g1 := rwb.cell 1; have k1 := rwb.free 1; have g2 := rwb.cell 2; have k2 := rwb.free 2; have g3 := rwb.cell 3; have k3 := rwb.free 3; have g4 := rwb.cell 4; have k4 := rwb.free 4; have g5 := rwb.cell 5; have k5 := rwb.free 5; simp only [List.getElem?_toArray, List.getElem?_cons_zero, List.getElem?_cons_succ] at g0 g1 g2 g3 g4 g5; clear rwb)
      go_wp2
      refine bodyPost_ret (v := tokZ) (by simp [results, Tryz.results55, go_sem, tokZ, g0, g1, g2, g3, g4, g5]; rfl) rfl ?_
      rw [HWO.out, headP_drop l i HI.out]
      have HR4 := Lib.hid hrd4
      refine ⟨rfl, ⟨(i + N), ?_⟩, ?_⟩
      · (repeat (with_reducible first | exact HR4.out | refine ReadAt.setOther ?_ ?_ _ | refine ReadAt.alloc ?_ _)) <;> (simp; omega)
      · (repeat (with_reducible first | exact HKF.out.trans hkp4 | refine Keep.setNew ?_ ?_ _ | refine Keep.alloc ?_ _)) <;> simp
    · have HPO := Lib.hid (parse_ok D HNE.out HDD.out HDL.out w1 (by omega))
      obtain ⟨n, hn⟩ : ∃ n, T.numOf D = n := ⟨_, rfl⟩
      rw [hn] at HPO hbig
      have HNN := Lib.hid hn
      clear hn
      by_cases h40 : 1099511627776 < n
      · have hword : T.number (l.drop i) = .bad 101 (T.headP (l.drop i)) := by
          unfold T.number
          rw [if_neg HKK.out]
          simp only [HN.out, HD.out, HNN.out]
          rw [if_pos h40]
        have HWO := Lib.hid hword
        have h40d : decide (1099511627776 < n) = true := decide_eq_true h40
        have h40i : decide ((1099511627776 : Int) < (n : Int)) = true := by rw [decide_eq_true_eq]; omega
        clear hword
        go_wp2_with fail
        refine HPO.out.mono ?_
        rintro _ w3 ⟨rfl, hb3⟩
        go_wp2_with fail
        have HRF := Lib.hid (HRD.out.keep hb3)
        have HKF := Lib.hid (HK1.out.below hb3)
        have HRS := Lib.hid (HW1R.out.below hb3 HW1R.out.lt)
        go_wp2_with (go_at_call 79; refine (fails_at b B (i + N) i l 101 p _ HRF.out HI.out).mono ?_; rintro _ w4 ⟨rfl, hrd4, hkp4⟩; have rwb := HRS.out.keep hkp4 (by omega); have g0 := rwb.cell 0; have k0 := rwb.free 0; have g1 := rwb.cell 1; have k1 := rwb.free 1; have g2 := rwb.cell 2; have k2 := rwb.free 2; have g3 := rwb.cell 3; have k3 := rwb.free 3; have g4 := rwb.cell 4; have k4 := rwb.free 4; have g5 := rwb.cell 5; have k5 := rwb.free 5; simp only [List.getElem?_toArray, List.getElem?_cons_zero, List.getElem?_cons_succ] at g0 g1 g2 g3 g4 g5; clear rwb)
        go_wp2
        refine bodyPost_ret (v := tokZ) (by simp [results, Tryz.results55, go_sem, tokZ, g0, g1, g2, g3, g4, g5]; rfl) rfl ?_
        rw [HWO.out, headP_drop l i HI.out]
        have HR4 := Lib.hid hrd4
        refine ⟨rfl, ⟨(i + N), ?_⟩, ?_⟩
        · (repeat (with_reducible first | exact HR4.out | refine ReadAt.setOther ?_ ?_ _ | refine ReadAt.alloc ?_ _)) <;> (simp; omega)
        · (repeat (with_reducible first | exact HKF.out.trans hkp4 | refine Keep.setNew ?_ ?_ _ | refine Keep.alloc ?_ _)) <;> simp
      · have hword : T.number (l.drop i) = .ok ⟨3, [], n, T.headP (l.drop i)⟩ N := by
          unfold T.number
          rw [if_neg HKK.out]
          simp only [HN.out, HD.out, HNN.out]
          rw [if_neg h40]
        have HWO := Lib.hid hword
        have h40d : decide (1099511627776 < n) = false := decide_eq_false h40
        have h40i : decide ((1099511627776 : Int) < (n : Int)) = false := by rw [decide_eq_false_iff_not]; omega
        clear hword
        go_wp2_with fail
        refine HPO.out.mono ?_
        rintro _ w3 ⟨rfl, hb3⟩
        have rwb := HW1R.out.below hb3 HW1R.out.lt
        have g0 := rwb.cell 0; have k0 := rwb.free 0; have g1 := rwb.cell 1; have k1 := rwb.free 1; have g2 := rwb.cell 2; have k2 := rwb.free 2; have g3 := rwb.cell 3; have k3 := rwb.free 3; have g4 := rwb.cell 4; have k4 := rwb.free 4; have g5 := rwb.cell 5; have k5 := rwb.free 5
        simp only [List.getElem?_toArray, List.getElem?_cons_zero, List.getElem?_cons_succ] at g0 g1 g2 g3 g4 g5
        clear rwb
        go_wp2
        refine bodyPost_ret (v := tokN ⟨3, [], n, U.zero⟩) (by simp [results, Tryz.results55, go_sem, tokN, g0, g1, g2, g3, g4, g5]) rfl ?_
        rw [HWO.out]
        have HR4 := Lib.hid (HRD.out.keep hb3)
        have HK4 := Lib.hid (HK1.out.below hb3)
        refine ⟨rfl, ?_, ?_⟩
        · (repeat (with_reducible first | exact HR4.out | refine ReadAt.setOther ?_ ?_ _ | refine ReadAt.alloc ?_ _)) <;> (simp; omega)
        · (repeat (with_reducible first | exact HK4.out | refine Keep.setNew ?_ ?_ _ | refine Keep.alloc ?_ _)) <;> simp
end Go.Proofs.YtaojgcioljcpmaaGreatDoor
