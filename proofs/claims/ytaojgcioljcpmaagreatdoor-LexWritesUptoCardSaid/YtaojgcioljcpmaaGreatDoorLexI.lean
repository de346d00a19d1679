/- Contracts: the reader's quoted. -/
import Derived.Test.YtaojgcioljcpmaaGreatDoorLexG
namespace Go.Proofs.YtaojgcioljcpmaaGreatDoor
open Go.RowKit

theorem builder_same {B b : Nat} {bs : List Value} {w w' : World} (h : Lib.IsBuilderF 40 5 B b bs w) (hk : ∀ k, B ≤ k → w'.heap[k]? = w.heap[k]?) : Lib.IsBuilderF 40 5 B b bs w' := by
  have key : ∀ p, Lib.BuilderAtF 40 5 B b p bs w → Lib.BuilderAtF 40 5 B b p bs w' := by
    rintro p ⟨hB, v, hb, ⟨hl, hown⟩, hne⟩
    refine ⟨hB, v, (hk b hB).trans hb, ⟨hl, ?_⟩, hne⟩
    rcases hown with h0 | ⟨g, cap, cur, fz, hv, hg, hh, r⟩
    · exact .inl h0
    · exact .inr ⟨g, cap, cur, fz, hv, hg, (hk g hg).trans hh, r⟩
  rcases h with h | h
  · exact .inl (key _ h)
  · exact .inr (key _ h)
theorem ReadAt.keepN {w w' : World} {b B N : Nat} {l : List U.Pt} {i : Nat} {e : Int} {p : U.Pos} (h : ReadAt w b B l i e p) (hb : Below N w w') (hN : b < N) : ReadAt w' b B l i e p := by
  obtain ⟨a, c, h0, h1⟩ := h.blk
  have hB := h.below
  exact ⟨⟨a, c, h0.below hb hN, h1.below (hb.mono (by omega))⟩, h.below, h.small, h.i_le, h.ok⟩
theorem Keep.belowN {b N : Nat} {u v w : World} (h : Keep b u v) (k : Below N v w) (hN : u.heap.size ≤ N) : Keep b u w :=
  ⟨k.os.trans h.os, k.tape.trans h.tape, k.output.trans h.output, Nat.le_trans h.size k.size, fun i hi hb => (k.block i (by omega)).trans (h.block i hi hb)⟩

theorem quote_end (P : U.Pos) (l : List U.Pt) (j : Nat) (acc : List UInt8) (n : Nat) (h : l.length ≤ j) : T.quote P (l.drop j) acc n = .bad 102 P := by
  rw [List.drop_of_length_le h, T.quote]
theorem q10 (P : U.Pos) (x : U.Pt) (t : List U.Pt) (acc : List UInt8) (n : Nat) (hr : x.r = 10) : T.quote P (x :: t) acc n = .bad 102 P := by cases t <;> simp [T.quote, hr]
theorem q34 (P : U.Pos) (x : U.Pt) (t : List U.Pt) (acc : List UInt8) (n : Nat) (hr : x.r = 34) : T.quote P (x :: t) acc n = .ok ⟨4, acc, 0, P⟩ (n + 1) := by cases t <;> simp [T.quote, hr]
theorem q92 (P : U.Pos) (x y : U.Pt) (t : List U.Pt) (acc : List UInt8) (n : Nat) (hr : x.r = 92) (hw : ¬ T.what y.r < 0) : T.quote P (x :: y :: t) acc n = T.quote P t (acc ++ Lib.encodeRune (T.what y.r)) (n + 2) := by simp [T.quote, hr, hw]
theorem q92b (P : U.Pos) (x y : U.Pt) (t : List U.Pt) (acc : List UInt8) (n : Nat) (hr : x.r = 92) (hw : T.what y.r < 0) : T.quote P (x :: y :: t) acc n = .bad 100 x.p := by simp [T.quote, hr, hw]
theorem q92e (P : U.Pos) (x : U.Pt) (acc : List UInt8) (n : Nat) (hr : x.r = 92) : T.quote P [x] acc n = .bad 100 x.p := by simp [T.quote, hr]
theorem qon (P : U.Pos) (x : U.Pt) (t : List U.Pt) (acc : List UInt8) (n : Nat) (h10 : x.r ≠ 10) (h34 : x.r ≠ 34) (h92 : x.r ≠ 92) : T.quote P (x :: t) acc n = T.quote P t (acc ++ Lib.encodeRune x.r) (n + 1) := by
  cases t <;> simp [T.quote, h10, h34, h92]
theorem quote_line (P : U.Pos) (l : List U.Pt) (j : Nat) (acc : List UInt8) (n : Nat) (h : j < l.length) (hr : (l[j]'h).r = 10) : T.quote P (l.drop j) acc n = .bad 102 P := by
  rw [List.drop_eq_getElem_cons h]; exact q10 _ _ _ _ _ hr
theorem quote_done (P : U.Pos) (l : List U.Pt) (j : Nat) (acc : List UInt8) (n : Nat) (h : j < l.length) (hr : (l[j]'h).r = 34) : T.quote P (l.drop j) acc n = .ok ⟨4, acc, 0, P⟩ (n + 1) := by
  rw [List.drop_eq_getElem_cons h]; exact q34 _ _ _ _ _ hr
theorem quote_esc (P : U.Pos) (l : List U.Pt) (j : Nat) (acc : List UInt8) (n : Nat) (h : j < l.length) (hr : (l[j]'h).r = 92) (h1 : j + 1 < l.length) (hw : ¬ T.what (l[j + 1]'h1).r < 0) :
    T.quote P (l.drop j) acc n = T.quote P (l.drop (j + 2)) (acc ++ Lib.encodeRune (T.what (l[j + 1]'h1).r)) (n + 2) := by
  rw [List.drop_eq_getElem_cons h, List.drop_eq_getElem_cons h1]; exact q92 _ _ _ _ _ _ hr hw
theorem quote_bad (P : U.Pos) (l : List U.Pt) (j : Nat) (acc : List UInt8) (n : Nat) (h : j < l.length) (hr : (l[j]'h).r = 92) (hw : T.what (T.peek (l.drop j) 1) < 0) : T.quote P (l.drop j) acc n = .bad 100 (l[j]'h).p := by
  rcases Nat.lt_or_ge (j + 1) l.length with h1 | h1
  · rw [peek_at l j 1 h1] at hw
    rw [List.drop_eq_getElem_cons h, List.drop_eq_getElem_cons h1]; exact q92b _ _ _ _ _ _ hr hw
  · rw [List.drop_eq_getElem_cons h, List.drop_of_length_le h1]; exact q92e _ _ _ _ hr
theorem quote_on (P : U.Pos) (l : List U.Pt) (j : Nat) (acc : List UInt8) (n : Nat) (h : j < l.length) (h10 : (l[j]'h).r ≠ 10) (h34 : (l[j]'h).r ≠ 34) (h92 : (l[j]'h).r ≠ 92) :
    T.quote P (l.drop j) acc n = T.quote P (l.drop (j + 1)) (acc ++ Lib.encodeRune (l[j]'h).r) (n + 1) := by
  rw [List.drop_eq_getElem_cons h]; exact qon _ _ _ _ _ h10 h34 h92
theorem what_range (r : Int) (hr : Lib.validRune r = true) (h : ¬ T.what r < 0) : 0 ≤ T.what r ∧ T.what r ≤ 1114111 := by
  have := valid_range hr
  unfold T.what at h ⊢
  repeat' split
  all_goals (first | omega | (simp_all; done) | (revert h; simp_all))

set_option maxHeartbeats 4000000 in
theorem quoted_any (G b B i : Nat) (l : List U.Pt) (p : U.Pos) (w : World) (_hT : Tabs G w) (_hG : G ≤ b) (h : ReadAt w b B l i 0 p) (hi : i < l.length) :
    Calls Tryz.prog 56 #[.pointer (some ⟨b, 0, none⟩)] w (Tells b B i l p w (T.quoted (l.drop i))) := by
  have HR := Lib.hid h
  have hbw := h.lt
  have hsm := h.small
  have HI := Lib.hid hi
  obtain ⟨P, hP⟩ : ∃ P, T.headP (l.drop i) = P := ⟨_, rfl⟩
  have hq0 : T.quoted (l.drop i) = T.quote P (l.drop (i + 1)) [] 1 := by
    unfold T.quoted
    rw [hP, List.tail_drop]
  obtain ⟨a, c, ⟨c0, c1, _, _, _, _⟩, hf, _⟩ := h.cells
  have f1 := hf 1
  obtain ⟨m, hm⟩ : ∃ m, l.length = m := ⟨_, rfl⟩
  have HM := Lib.hid hm
  rw [hm] at hi hsm c0
  have HQ0 := Lib.hid hq0
  have HP := Lib.hid hP
  clear hf h hm hq0 hP
  go_enter Tryz.func56, Tryz.ntmps56
  go_wp2
  go_loopw [] (fun wr => ∃ (j : Nat) (acc : List UInt8), i + 1 ≤ j ∧ j ≤ m ∧ ReadAt wr b B l j 0 p ∧ Lib.IsBuilderF 40 5 (w.heap.size + 1) (w.heap.size + 1) (Lib.byteCells acc) wr ∧ acc.length ≤ 4 * j ∧ Keep b w wr ∧ Blk wr w.heap.size #[.int .u8 0, .string ⟨#[]⟩, .int .i64 0, .int .i64 0, .int .i64 0, .int .i64 0] 42 ∧ Hid (T.quoted (l.drop i) = T.quote P (l.drop j) acc (j - i))) (fun wr => m - posOf b wr)
  case atStart =>
    refine ⟨i + 1, [], Nat.le_refl _, hi, ?_, ?_, by simp, ?_, ?_, ?_⟩
    · exact (ReadAt.alloc (ReadAt.alloc (HR.out.move (j := i + 1) (by rw [HM.out]; omega) ((i : Int) + 1) (by omega)) _) _)
    · have := Lib.IsBuilderF.of (Lib.fresh_isBuilder 40 5 ((w.setCell ⟨b, 1, none⟩ (.int .i64 ((i : Int) + 1))).alloc (.cells #[.int .u8 0, .string ⟨#[]⟩, .int .i64 0, .int .i64 0, .int .i64 0, .int .i64 0] 42)))
      have hz : ((w.setCell ⟨b, 1, none⟩ (.int .i64 ((i : Int) + 1))).alloc (.cells #[.int .u8 0, .string ⟨#[]⟩, .int .i64 0, .int .i64 0, .int .i64 0, .int .i64 0] 42)).heap.size = w.heap.size + 1 := by simp
      rw [hz] at this
      exact this
    · exact (((Keep.refl b w).setOwn 1 _).alloc _).alloc _
    · exact (Blk.new _ _ _ _ (by simp)).alloc _
    · show _ = _
      rw [HQ0.out, Nat.add_sub_cancel_left]
  case round =>
    obtain ⟨j, acc, hij, hjm, hrd, hbu, hal, hkp, hrs, HQ⟩ := hrel
    have hpos := hrd.pos
    have hsz := hkp.size
    have hbsz : w.heap.size + 1 < wr.heap.size := by rcases hbu with h | h <;> exact h.lt
    obtain ⟨a2, c2, ⟨d0, d1, _, _, _, _⟩, hf, _⟩ := hrd.cells
    have f1' := hf 1
    rw [HM.out] at d0
    have HRD := Lib.hid hrd
    have HBU := Lib.hid hbu
    have HKP := Lib.hid hkp
    have HRS := Lib.hid hrs
    clear hf hrd hbu hkp hrs
    obtain ⟨r, hr⟩ : ∃ r, T.peek (l.drop j) 0 = r := ⟨_, rfl⟩
    have hp0 : Calls Tryz.prog 51 #[.pointer (some ⟨b, 0, none⟩), .int .i64 0] wr fun o w' => o = .returned (.int .i32 r) ∧ ∃ k, w' = wr.drewN k := by
      rw [← hr]; exact peek_any b B j 0 l 0 p wr HRD.out (by omega)
    have HP0 := Lib.hid hp0
    have HRR := Lib.hid hr
    clear hp0 hr
    by_cases hend : m ≤ j
    · have hr1 : r = -1 := by rw [← HRR.out]; exact peek_end l j 0 (by rw [HM.out]; omega)
      subst hr1
      have HWO := Lib.hid (HQ.out.trans (quote_end P l j acc (j - i) (by rw [HM.out]; exact hend)))
      go_wp2_with fail
      refine HP0.out.mono ?_
      rintro _ _ ⟨rfl, m0, rfl⟩
      have HRF := Lib.hid (HRD.out.drewN m0)
      have HKF := Lib.hid (HKP.out.drewN m0)
      have HRS2 := Lib.hid (show Blk (wr.drewN m0) _ _ _ from HRS.out)
      go_wp2_with (go_at_call 79; refine (fails_at b B j i l 102 p _ HRF.out HI.out).mono ?_; rintro _ w4 ⟨rfl, hrd4, hkp4⟩; have rwb := HRS2.out.keep hkp4 (by omega); have g0 := rwb.cell 0; have k0 := rwb.free 0; have g1 := rwb.cell 1; have k1 := rwb.free 1; have g2 := rwb.cell 2; have k2 := rwb.free 2; have g3 := rwb.cell 3; have k3 := rwb.free 3; have g4 := rwb.cell 4; have k4 := rwb.free 4; have g5 := rwb.cell 5; have k5 := rwb.free 5; simp only [List.getElem?_toArray, List.getElem?_cons_zero, List.getElem?_cons_succ] at g0 g1 g2 g3 g4 g5; clear rwb)
      go_wp2
      refine bodyPost_ret (v := tokZ) (by simp [results, Tryz.results56, go_sem, tokZ, g0, g1, g2, g3, g4, g5]; rfl) rfl ?_
      rw [HWO.out, ← HP.out, headP_drop l i HI.out]
      have HR4 := Lib.hid hrd4
      refine ⟨rfl, ⟨j, ?_⟩, ?_⟩
      · (repeat (with_reducible first | exact HR4.out | refine ReadAt.setOther ?_ ?_ _ | refine ReadAt.alloc ?_ _)) <;> (simp; omega)
      · (repeat (with_reducible first | exact HKF.out.trans hkp4 | refine Keep.setNew ?_ ?_ _ | refine Keep.alloc ?_ _)) <;> simp
    · have hjl : j < l.length := by rw [HM.out]; omega
      have hrl : (l[j]'hjl).r = r := by rw [← HRR.out]; exact (peek_at l j 0 hjl).symm
      have hrv : Lib.validRune r = true := by rw [← hrl]; exact HRD.out.ok _ (List.getElem_mem hjl)
      have hrg := valid_range hrv
      have HRL := Lib.hid hrl
      have hn1 : (r == -1) = false := by rw [beq_eq_false_iff_ne]; omega
      clear hrl hrv
      by_cases h10 : r = 10
      · subst h10
        have HWO := Lib.hid (HQ.out.trans (quote_line P l j acc (j - i) hjl HRL.out))
        go_wp2_with fail
        refine HP0.out.mono ?_
        rintro _ _ ⟨rfl, m0, rfl⟩
        have HRF := Lib.hid (HRD.out.drewN m0)
        have HKF := Lib.hid (HKP.out.drewN m0)
        have HRS2 := Lib.hid (show Blk (wr.drewN m0) _ _ _ from HRS.out)
        go_wp2_with (go_at_call 79; refine (fails_at b B j i l 102 p _ HRF.out HI.out).mono ?_; rintro _ w4 ⟨rfl, hrd4, hkp4⟩; have rwb := HRS2.out.keep hkp4 (by omega); have g0 := rwb.cell 0; have k0 := rwb.free 0; have g1 := rwb.cell 1; have k1 := rwb.free 1; have g2 := rwb.cell 2; have k2 := rwb.free 2; have g3 := rwb.cell 3; have k3 := rwb.free 3; have g4 := rwb.cell 4; have k4 := rwb.free 4; have g5 := rwb.cell 5; have k5 := rwb.free 5; simp only [List.getElem?_toArray, List.getElem?_cons_zero, List.getElem?_cons_succ] at g0 g1 g2 g3 g4 g5; clear rwb)
        go_wp2
        refine bodyPost_ret (v := tokZ) (by simp [results, Tryz.results56, go_sem, tokZ, g0, g1, g2, g3, g4, g5]; rfl) rfl ?_
        rw [HWO.out, ← HP.out, headP_drop l i HI.out]
        have HR4 := Lib.hid hrd4
        refine ⟨rfl, ⟨j, ?_⟩, ?_⟩
        · (repeat (with_reducible first | exact HR4.out | refine ReadAt.setOther ?_ ?_ _ | refine ReadAt.alloc ?_ _)) <;> (simp; omega)
        · (repeat (with_reducible first | exact HKF.out.trans hkp4 | refine Keep.setNew ?_ ?_ _ | refine Keep.alloc ?_ _)) <;> simp
      · have h10' : (r == 10) = false := by rw [beq_eq_false_iff_ne]; exact h10
        have H10 := Lib.hid h10
        clear h10
        by_cases h34 : r = 34
        · subst h34
          have HWO := Lib.hid (HQ.out.trans (quote_done P l j acc (j - i) hjl HRL.out))
          have hmv := (HRD.out.drewN 0).move (j := j + 1) (by omega) ((j : Int) + 1) (by omega)
          go_wp2_with fail
          refine HP0.out.mono ?_
          rintro _ _ ⟨rfl, m0, rfl⟩
          go_wp2_with fail
          have hbs : Lib.IsBuilderF 40 5 (w.heap.size + 1) (w.heap.size + 1) (Lib.byteCells acc) ((wr.drewN m0).setCell ⟨b, 1, none⟩ (.int .i64 ((j : Int) + 1))) :=
            builder_same HBU.out (fun k hk => heap_setCell_other (wr.drewN m0) ⟨b, 1, none⟩ k _ (by simp; omega))
          have hrd3 := (HRD.out.drewN m0).move (j := j + 1) (by omega) ((j : Int) + 1) (by omega)
          have hk3 := (HKP.out.drewN m0).setOwn 1 (.int .i64 ((j : Int) + 1))
          have hs3 : Blk ((wr.drewN m0).setCell ⟨b, 1, none⟩ (.int .i64 ((j : Int) + 1))) w.heap.size #[.int .u8 0, .string ⟨#[]⟩, .int .i64 0, .int .i64 0, .int .i64 0, .int .i64 0] 42 := Blk.setOther (show Blk (wr.drewN m0) _ _ _ from HRS.out) (by simp; omega) _
          refine (Tryz.Builder_String_any_k (w.heap.size + 1) (w.heap.size + 1) acc _ hbs (by simp; omega)).mono ?_
          rintro _ w5 ⟨rfl, _, hb5, _⟩
          have hks := hs3.below hb5 (by omega)
          have g0 := hks.cell 0; have k0 := hks.free 0; have g1 := hks.cell 1; have k1 := hks.free 1; have g2 := hks.cell 2; have k2 := hks.free 2; have g3 := hks.cell 3; have k3 := hks.free 3; have g4 := hks.cell 4; have k4 := hks.free 4; have g5 := hks.cell 5; have k5 := hks.free 5
          simp only [List.getElem?_toArray, List.getElem?_cons_zero, List.getElem?_cons_succ] at g0 g1 g2 g3 g4 g5
          have HR4 := Lib.hid (hrd3.keepN hb5 (by omega))
          have HK4 := Lib.hid (hk3.belowN hb5 (by omega))
          clear hks hs3 hk3 hrd3 hbs hb5 hmv
          go_wp2
          refine bodyPost_ret (v := tokN ⟨4, acc, 0, U.zero⟩) (by simp [results, Tryz.results56, go_sem, tokN, g0, g1, g2, g3, g4, g5]) rfl ?_
          rw [HWO.out]
          refine ⟨rfl, ?_, ?_⟩
          · rw [show i + (j - i + 1) = j + 1 by omega]
            (repeat (with_reducible first | exact HR4.out | refine ReadAt.setOther ?_ ?_ _ | refine ReadAt.alloc ?_ _)) <;> (simp; omega)
          · (repeat (with_reducible first | exact HK4.out | refine Keep.setNew ?_ ?_ _ | refine Keep.alloc ?_ _)) <;> simp
        · have h34' : (r == 34) = false := by rw [beq_eq_false_iff_ne]; exact h34
          have H34 := Lib.hid h34
          clear h34
          by_cases h92 : r = 92
          · subst h92
            obtain ⟨r1, hr1⟩ : ∃ r, T.peek (l.drop j) 1 = r := ⟨_, rfl⟩
            obtain ⟨V, hV⟩ : ∃ V, T.what r1 = V := ⟨_, rfl⟩
            have hp1 : ∀ n, Calls Tryz.prog 51 #[.pointer (some ⟨b, 0, none⟩), .int .i64 1] (wr.drewN n) fun o w' => o = .returned (.int .i32 r1) ∧ ∃ k, w' = (wr.drewN n).drewN k := fun n => by
              rw [← hr1]; exact peek_any b B j 1 l 0 p _ (HRD.out.drewN n) (by omega)
            have hwt : ∀ W : World, Calls Tryz.prog 82 #[.int .i32 r1] W fun o w' => o = .returned (.int .i32 V) ∧ w' = W := fun W => by rw [← hV]; exact what_any r1 W
            have HP1 := Lib.hid hp1
            have HWT := Lib.hid hwt
            have HR1 := Lib.hid hr1
            have HV := Lib.hid hV
            clear hp1 hwt hr1 hV
            by_cases hneg : V < 0
            · have hnd : decide (V < 0) = true := decide_eq_true hneg
              have HWO := Lib.hid (HQ.out.trans (quote_bad P l j acc (j - i) hjl HRL.out (by rw [HR1.out, HV.out]; exact hneg)))
              go_wp2_with fail
              refine HP0.out.mono ?_
              rintro _ _ ⟨rfl, m0, rfl⟩
              go_wp2_with fail
              refine (HP1.out _).mono ?_
              rintro _ _ ⟨rfl, m1, rfl⟩
              go_wp2_with fail
              refine (HWT.out _).mono ?_
              rintro _ _ ⟨rfl, rfl⟩
              have HRF := Lib.hid (HRD.out.drewN (m0 + m1))
              have HKF := Lib.hid (HKP.out.drewN (m0 + m1))
              have HRS2 := Lib.hid (show Blk (wr.drewN (m0 + m1)) _ _ _ from HRS.out)
              go_wp2_with (go_at_call 79; refine (fails_at b B j j l 100 p _ HRF.out hjl).mono ?_; rintro _ w4 ⟨rfl, hrd4, hkp4⟩; have rwb := HRS2.out.keep hkp4 (by omega); have g0 := rwb.cell 0; have k0 := rwb.free 0; have g1 := rwb.cell 1; have k1 := rwb.free 1; have g2 := rwb.cell 2; have k2 := rwb.free 2; have g3 := rwb.cell 3; have k3 := rwb.free 3; have g4 := rwb.cell 4; have k4 := rwb.free 4; have g5 := rwb.cell 5; have k5 := rwb.free 5; simp only [List.getElem?_toArray, List.getElem?_cons_zero, List.getElem?_cons_succ] at g0 g1 g2 g3 g4 g5; clear rwb)
              go_wp2
              refine bodyPost_ret (v := tokZ) (by simp [results, Tryz.results56, go_sem, tokZ, g0, g1, g2, g3, g4, g5]; rfl) rfl ?_
              rw [HWO.out]
              have HR4 := Lib.hid hrd4
              refine ⟨rfl, ⟨j, ?_⟩, ?_⟩
              · (repeat (with_reducible first | exact HR4.out | refine ReadAt.setOther ?_ ?_ _ | refine ReadAt.alloc ?_ _)) <;> (simp; omega)
              · (repeat (with_reducible first | exact HKF.out.trans hkp4 | refine Keep.setNew ?_ ?_ _ | refine Keep.alloc ?_ _)) <;> simp
            · have hnd : decide (V < 0) = false := decide_eq_false hneg
              have hj1 : j + 1 < l.length := by
                rcases Nat.lt_or_ge (j + 1) l.length with h | h
                · exact h
                · exfalso
                  have h1 := HR1.out
                  rw [peek_end l j 1 h] at h1
                  have h2 := HV.out
                  rw [← h1] at h2
                  apply hneg
                  rw [← h2]
                  decide
              have hr1l : (l[j + 1]'hj1).r = r1 := by rw [← HR1.out]; exact (peek_at l j 1 hj1).symm
              have hvr : Lib.validRune r1 = true := by rw [← hr1l]; exact HRD.out.ok _ (List.getElem_mem hj1)
              have hVr := what_range r1 hvr (by rw [HV.out]; exact hneg)
              rw [HV.out] at hVr
              have HQ2 := Lib.hid (HQ.out.trans (quote_esc P l j acc (j - i) hjl HRL.out hj1 (by rw [hr1l, HV.out]; exact hneg)))
              have HR1L := Lib.hid hr1l
              clear hr1l hvr hneg
              obtain ⟨q, hq⟩ : ∃ q, j + 1 = q := ⟨_, rfl⟩
              have hqb : q ≤ m := by have := HM.out; omega
              have HQQ := Lib.hid hq
              clear hq
              go_wp2_with fail
              refine HP0.out.mono ?_
              rintro _ _ ⟨rfl, m0, rfl⟩
              go_wp2_with fail
              refine (HP1.out _).mono ?_
              rintro _ _ ⟨rfl, m1, rfl⟩
              go_wp2_with fail
              refine (HWT.out _).mono ?_
              rintro _ _ ⟨rfl, rfl⟩
              go_wp2_with fail
              obtain ⟨W2, hW2⟩ : ∃ W2, (wr.drewN (m0 + m1)).setCell ⟨b, 1, none⟩ (.int .i64 ((j : Int) + 1)) = W2 := ⟨_, rfl⟩
              have hrd2 : ReadAt W2 b B l q 0 p := by rw [← hW2]; exact (HRD.out.drewN (m0 + m1)).move (by have := HQQ.out; omega) _ (by have := HQQ.out; omega)
              have hk2 : Keep b w W2 := by rw [← hW2]; exact (HKP.out.drewN (m0 + m1)).setOwn 1 _
              have hs2 : Blk W2 w.heap.size #[.int .u8 0, .string ⟨#[]⟩, .int .i64 0, .int .i64 0, .int .i64 0, .int .i64 0] 42 := by rw [← hW2]; exact Blk.setOther (show Blk (wr.drewN (m0 + m1)) _ _ _ from HRS.out) (by simp; omega) _
              have hb2 : Lib.IsBuilderF 40 5 (w.heap.size + 1) (w.heap.size + 1) (Lib.byteCells acc) W2 := by
                rw [← hW2]
                exact builder_same HBU.out (fun k hk => heap_setCell_other (wr.drewN (m0 + m1)) ⟨b, 1, none⟩ k _ (by simp; omega))
              have hz2 : W2.heap.size = wr.heap.size := by rw [← hW2]; simp
              rw [hW2]
              have hp2 : Calls Tryz.prog 51 #[.pointer (some ⟨b, 0, none⟩), .int .i64 0] W2 fun o w' => o = .returned (.int .i32 r1) ∧ ∃ k, w' = W2.drewN k := by
                have h := peek_any b B q 0 l 0 p W2 hrd2 (by omega)
                have hq2 : T.peek (l.drop q) 0 = r1 := by
                  rw [← HQQ.out, peek_at l (j + 1) 0 hj1]; exact HR1L.out
                rw [hq2] at h
                exact h
              have HRD2 := Lib.hid hrd2
              have HK2 := Lib.hid hk2
              have HS2 := Lib.hid hs2
              have HB2 := Lib.hid hb2
              clear hW2 hrd2 hk2 hs2 hb2
              refine hp2.mono ?_
              rintro _ _ ⟨rfl, m2, rfl⟩
              clear hp2
              go_wp2_with fail
              refine (HWT.out _).mono ?_
              rintro _ _ ⟨rfl, rfl⟩
              go_wp2_with fail
              refine (bld_rune (w.heap.size + 1) (w.heap.size + 1) _ V (by omega) (by omega) (W2.drewN m2) HB2.out (by rw [Lib.byteCells_length]; omega) (by simp; omega)).mono ?_
              rintro _ w5 ⟨rfl, hb5, hlo, _⟩
              have HB5 := Lib.hid hb5
              have HRD5 := Lib.hid ((HRD2.out.drewN m2).keepN hlo (by omega))
              have HKP5 := Lib.hid ((HK2.out.drewN m2).belowN hlo (by omega))
              have HRS5 := Lib.hid ((show Blk (W2.drewN m2) _ _ _ from HS2.out).below hlo (by omega))
              have hs5 : w.heap.size + 1 < w5.heap.size := hb5.lt
              obtain ⟨a5, c5, ⟨e0, e1, _, _, _, _⟩, hf5, _⟩ := HRD5.out.cells
              have f15 := hf5 1
              clear hf5 hb5 hlo
              go_wp2
              have hmv := HRD5.out.move (j := j + 2) (by have := HM.out; omega) ((q : Int) + 1) (by (have := HQQ.out; omega))
              go_roundw
              case rel =>
                refine ⟨j + 2, acc ++ Lib.encodeRune V, by omega, by have := HM.out; omega, hmv, ?_, ?_, HKP5.out.setOwn 1 _, Blk.setOther HRS5.out (by simp; omega) _, ?_⟩
                · refine builder_same (w := w5) ?_ (fun k hk => heap_setCell_other w5 ⟨b, 1, none⟩ k _ (by simp; omega))
                  rw [Lib.byteCells_append, Lib.byteCells_encodeRune]
                  exact .inr HB5.out
                · have := U.enc_length V
                  rw [List.length_append]; omega
                · show _ = _
                  rw [HQ2.out, show j + 2 - i = j - i + 2 by omega, (show T.what (l[j + 1]'hj1).r = V from (congrArg T.what HR1L.out).trans HV.out)]
              case measure =>
                rw [hmv.pos, hpos]
                omega
          · have h92' : (r == 92) = false := by rw [beq_eq_false_iff_ne]; exact h92
            have HQ2 := Lib.hid (HQ.out.trans (quote_on P l j acc (j - i) hjl (by rw [HRL.out]; exact H10.out) (by rw [HRL.out]; exact H34.out) (by rw [HRL.out]; exact h92)))
            clear h92
            go_wp2_with fail
            refine HP0.out.mono ?_
            rintro _ _ ⟨rfl, m0, rfl⟩
            go_wp2_with fail
            refine (bld_rune (w.heap.size + 1) (w.heap.size + 1) _ r (by omega) (by omega) (wr.drewN m0) HBU.out (by rw [Lib.byteCells_length]; omega) (by simp; omega)).mono ?_
            rintro _ w5 ⟨rfl, hb5, hlo, _⟩
            have HB5 := Lib.hid hb5
            have HRD5 := Lib.hid ((HRD.out.drewN m0).keepN hlo (by omega))
            have HKP5 := Lib.hid ((HKP.out.drewN m0).belowN hlo (by omega))
            have HRS5 := Lib.hid ((show Blk (wr.drewN m0) _ _ _ from HRS.out).below hlo (by omega))
            have hs5 : w.heap.size + 1 < w5.heap.size := hb5.lt
            obtain ⟨a5, c5, ⟨e0, e1, _, _, _, _⟩, hf5, _⟩ := HRD5.out.cells
            have f15 := hf5 1
            clear hf5 hb5 hlo
            go_wp2
            have hmv := HRD5.out.move (j := j + 1) (by have := HM.out; omega) ((j : Int) + 1) (by omega)
            go_roundw
            case rel =>
              refine ⟨j + 1, acc ++ Lib.encodeRune r, by omega, by have := HM.out; omega, hmv, ?_, ?_, HKP5.out.setOwn 1 _, Blk.setOther HRS5.out (by simp; omega) _, ?_⟩
              · refine builder_same (w := w5) ?_ (fun k hk => heap_setCell_other w5 ⟨b, 1, none⟩ k _ (by simp; omega))
                rw [Lib.byteCells_append, Lib.byteCells_encodeRune]
                exact .inr HB5.out
              · have := U.enc_length r
                rw [List.length_append]; omega
              · show _ = _
                rw [HQ2.out, show j + 1 - i = j - i + 1 by omega, HRL.out]
            case measure =>
              rw [hmv.pos, hpos]
              omega
end Go.Proofs.YtaojgcioljcpmaaGreatDoor
