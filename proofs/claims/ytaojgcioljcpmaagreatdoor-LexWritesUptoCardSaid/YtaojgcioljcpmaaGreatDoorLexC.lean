/- Contracts: the reader's skip. -/
import Derived.Test.YtaojgcioljcpmaaGreatDoorLexB
namespace Go.Proofs.YtaojgcioljcpmaaGreatDoor
open Go.RowKit

theorem skip_blank (l : List U.Pt) (i : Nat) (h : i < l.length) (hk : T.kindR (l[i]'h).r = 1) : T.skip false (l.drop i) = T.skip false (l.drop (i + 1)) := by
  rw [List.drop_eq_getElem_cons h]
  simp [T.skip, hk]
theorem skip_while (l : List U.Pt) : ∀ (n i : Nat), T.count [1] (l.drop i) = n → T.skip false (l.drop i) = T.skip false (l.drop (i + n))
  | 0, i, _ => rfl
  | n + 1, i, h => by
    have hi : i < l.length := by
      rcases Nat.lt_or_ge i l.length with h1 | h1
      · exact h1
      · rw [count_end _ _ _ h1] at h; omega
    cases hin : T.isIn [1] (l[i]'hi) with
    | false => rw [count_out _ _ _ hi hin] at h; omega
    | true =>
      have hc := count_in _ _ _ hi hin
      have hk : T.kindR (l[i]'hi).r = 1 := by simpa [T.isIn] using hin
      rw [skip_blank l i hi hk, skip_while l n (i + 1) (by omega), show i + 1 + n = i + (n + 1) by omega]
/-- behind a while of blanks no blank stands -/
theorem count_stop (ks : List Int) (l : List U.Pt) : ∀ (n i : Nat), T.count ks (l.drop i) = n → ∀ (h : i + n < l.length), T.isIn ks (l[i + n]'h) = false
  | 0, i, h0, h => by
    cases hin : T.isIn ks (l[i + 0]'h) with
    | false => rfl
    | true => rw [count_in _ _ i (by omega) hin] at h0; omega
  | n + 1, i, h0, h => by
    cases hin : T.isIn ks (l[i]'(by omega)) with
    | false => rw [count_out _ _ i (by omega) hin] at h0; omega
    | true =>
      rw [count_in _ _ i (by omega) hin] at h0
      have := count_stop ks l n (i + 1) (by omega) (by omega)
      simp only [show i + (n + 1) = i + 1 + n by omega]
      exact this
theorem skip_end (l : List U.Pt) (i : Nat) (h : l.length ≤ i) (b : Bool) : T.skip b (l.drop i) = [] := by
  rw [List.drop_of_length_le h]; cases b <;> rfl
theorem skip_here (l : List U.Pt) (i : Nat) (hi : i < l.length) (hk : ¬ T.kindR (l[i]'hi).r = 1) (hr : ¬ (T.peek (l.drop i) 0 = 45 ∧ T.peek (l.drop i) 1 = 45)) : T.skip false (l.drop i) = l.drop i := by
  rw [List.drop_eq_getElem_cons hi]
  rw [List.drop_eq_getElem_cons hi] at hr
  have h0 : T.peek (l[i] :: l.drop (i + 1)) 0 = l[i].r := rfl
  have h1 : T.peek (l[i] :: l.drop (i + 1)) 1 = T.peek (l.drop (i + 1)) 0 := by simp [T.peek]
  rw [h0, h1] at hr
  simp only [T.skip]
  rw [if_neg hk, if_neg hr]
theorem skip_remark (l : List U.Pt) (i : Nat) (hi : i < l.length) (hr : T.peek (l.drop i) 0 = 45 ∧ T.peek (l.drop i) 1 = 45) : T.skip false (l.drop i) = T.skip true (l.drop i) := by
  rw [List.drop_eq_getElem_cons hi]
  rw [List.drop_eq_getElem_cons hi] at hr
  have h0 : T.peek (l[i] :: l.drop (i + 1)) 0 = l[i].r := rfl
  have h1 : T.peek (l[i] :: l.drop (i + 1)) 1 = T.peek (l.drop (i + 1)) 0 := by simp [T.peek]
  rw [h0, h1] at hr
  have hk : ¬ T.kindR l[i].r = 1 := by rw [hr.1]; decide
  have h10 : ¬ l[i].r = 10 := by rw [hr.1]; decide
  simp only [T.skip]
  rw [if_neg hk, if_pos hr, if_neg h10]
theorem skip_on (l : List U.Pt) (i : Nat) (hi : i < l.length) (h : ¬ (l[i]'hi).r = 10) : T.skip true (l.drop i) = T.skip true (l.drop (i + 1)) := by
  rw [List.drop_eq_getElem_cons hi]
  simp [T.skip, h]
theorem skip_line (l : List U.Pt) (i : Nat) (hi : i < l.length) (h : (l[i]'hi).r = 10) : T.skip true (l.drop i) = T.skip false (l.drop i) := by
  rw [List.drop_eq_getElem_cons hi]
  have hk : T.kindR l[i].r = 1 := by rw [h]; decide
  simp only [T.skip]
  rw [if_pos h, if_pos hk]

set_option maxHeartbeats 2000000 in
theorem skip_any (b B i : Nat) (l : List U.Pt) (e : Int) (p : U.Pos) (w : World) (h : ReadAt w b B l i e p) :
    Calls Tryz.prog 32 #[.pointer (some ⟨b, 0, none⟩)] w fun o w' =>
      o = .returned (.tuple #[]) ∧ ∃ j, i ≤ j ∧ T.skip false (l.drop i) = l.drop j ∧ ReadAt w' b B l j e p ∧ Keep b w w' := by
  have HR := Lib.hid h
  have hbw := h.lt
  clear h
  go_enter Tryz.func32, Tryz.ntmps32
  go_wp2
  go_loopw [] (fun wr => ∃ j : Nat, i ≤ j ∧ Hid (T.skip false (l.drop i) = T.skip false (l.drop j)) ∧ ReadAt wr b B l j e p ∧ Keep b w wr) (fun wr => l.length - posOf b wr)
  case atStart => exact ⟨i, Nat.le_refl _, rfl, HR.out, Keep.refl _ _⟩
  case round =>
    obtain ⟨j, hij, HS, hrd, hkp⟩ := hrel
    have hpos := hrd.pos
    have hs := hkp.size
    have hw2 : Keep b w (wr.alloc (.cells #[.int .i64 1] 3)) := hkp.alloc _
    have hrd2 : ReadAt (wr.alloc (.cells #[.int .i64 1] 3)) b B l j e p := hrd.keep ((Below.refl _ _).alloc (Nat.le_refl _) _)
    have hwh := while_any b B j wr.heap.size 1 [1] l e p (wr.alloc (.cells #[.int .i64 1] 3)) hrd2 (by simp) (by have := hrd.lt; omega)
      (by intro q hq; obtain rfl : q = 0 := by simpa using hq
          simp [World.cell?_alloc_at]) (by decide)
    obtain ⟨N, hN⟩ : ∃ N, T.count [1] (l.drop j) = N := ⟨_, rfl⟩
    rw [hN] at hwh
    have HWH := Lib.hid hwh
    have HN := Lib.hid hN
    have HRD := Lib.hid hrd
    clear hwh hN hrd hrd2
    go_wp2_with (go_at_call 50; refine (HWH.out).mono ?_; rintro _ w1 ⟨rfl, hrd1, hk1⟩)
    have HRD1 := Lib.hid hrd1
    clear hrd1
    have hkp1 : Keep b w w1 := hw2.trans hk1
    have SW : T.skip false (l.drop j) = T.skip false (l.drop (j + N)) := skip_while l N j HN.out
    have HSW := Lib.hid (HS.out.trans SW)
    clear SW hw2 hk1 HS
    obtain ⟨q, hq⟩ : ∃ q, j + N = q := ⟨_, rfl⟩
    have hst : ∀ (h : q < l.length), T.kindR (l[q]'h).r ≠ 1 := by
      intro h
      subst hq
      have := count_stop [1] l N j HN.out h
      simpa [T.isIn] using this
    have HST := Lib.hid hst
    rw [hq] at HRD1 HSW
    have hjq : j ≤ q := by omega
    have hql : q ≤ l.length := HRD1.out.i_le
    clear hst hq HN
    obtain ⟨r0, hr0⟩ : ∃ r, T.peek (l.drop q) 0 = r := ⟨_, rfl⟩
    obtain ⟨r1, hr1⟩ : ∃ r, T.peek (l.drop q) 1 = r := ⟨_, rfl⟩
    have hp0 : Calls Tryz.prog 51 #[.pointer (some ⟨b, 0, none⟩), .int .i64 0] w1 fun o w' => o = .returned (.int .i32 r0) ∧ ∃ k, w' = w1.drewN k := by
      rw [← hr0]; exact peek_any b B q 0 l e p _ HRD1.out (by omega)
    have hp1 : ∀ m, Calls Tryz.prog 51 #[.pointer (some ⟨b, 0, none⟩), .int .i64 1] (w1.drewN m) fun o w' => o = .returned (.int .i32 r1) ∧ ∃ k, w' = (w1.drewN m).drewN k := fun m => by
      rw [← hr1]; exact peek_any b B q 1 l e p _ (HRD1.out.drewN m) (by omega)
    have HP0 := Lib.hid hp0
    have HP1 := Lib.hid hp1
    have HR0 := Lib.hid hr0
    have HR1 := Lib.hid hr1
    clear hp0 hp1 hr0 hr1
    by_cases h0 : r0 = 45
    · by_cases h1 : r1 = 45
      · -- a remark
        subst h0 h1
        have hqlt : q < l.length := by
          rcases Nat.lt_or_ge q l.length with h | h
          · exact h
          · have := HR0.out; rw [peek_end l q 0 (by omega)] at this; omega
        have HSR := Lib.hid (HSW.out.trans (skip_remark l q hqlt ⟨HR0.out, HR1.out⟩))
        refine HP0.out.mono ?_
        rintro _ _ ⟨rfl, m0, rfl⟩
        go_wp2_with fail
        refine (HP1.out _).mono ?_
        rintro _ _ ⟨rfl, m1, rfl⟩
        go_wp2_with fail
        go_loopw [] (fun wq => ∃ t : Nat, q ≤ t ∧ t ≤ l.length ∧ Hid (T.skip false (l.drop i) = T.skip true (l.drop t)) ∧ ReadAt wq b B l t e p ∧ Keep b w wq) (fun wq => l.length - posOf b wq)
        case atStart => exact ⟨q, Nat.le_refl _, hql, HSR.out, HRD1.out.drewN _, hkp1.drewN _⟩
        case round =>
          obtain ⟨t, hqt, htl, HS3, hrd3, hk3⟩ := hrel
          have hpos3 := hrd3.pos
          obtain ⟨a3, c3, ⟨d0, d1, _, _, _, _⟩, hf, _⟩ := hrd3.cells
          have f1 := hf 1
          have HRD3 := Lib.hid hrd3
          obtain ⟨m, hm⟩ : ∃ m, l.length = m := ⟨_, rfl⟩
          have HM := Lib.hid hm
          have hm2 : m ≤ 20000 := by rw [← hm]; exact hrd3.small
          rw [hm] at d0 htl
          clear hf hrd3 hm
          by_cases hlt : t < m
          · have hdj : decide (t < m) = true := decide_eq_true hlt
            have htl2 : t < l.length := by rw [HM.out]; exact hlt
            obtain ⟨r, hr⟩ : ∃ r, (l[t]'htl2).r = r := ⟨_, rfl⟩
            have hp3 : ∀ n, Calls Tryz.prog 51 #[.pointer (some ⟨b, 0, none⟩), .int .i64 0] (wr.drewN n) fun o w' => o = .returned (.int .i32 r) ∧ ∃ k, w' = (wr.drewN n).drewN k := fun n => by
              have := peek_any b B t 0 l e p _ (HRD3.out.drewN n) (by omega)
              rw [peek_at l t 0 (by omega)] at this
              simp only [Nat.add_zero, hr] at this
              exact this
            have HP3 := Lib.hid hp3
            have HRR := Lib.hid hr
            clear hp3 hr
            by_cases h10 : r = 10
            · subst h10
              go_wp2
              go_quiet ((go_at_call 51; exact Calls.quiet_of (HP3.out _)))
              go_wp2
              have htq : t ≠ q := by
                intro hh
                subst hh
                have h1 := HR0.out
                rw [peek_at l t 0 (by omega)] at h1
                simp only [Nat.add_zero, HRR.out] at h1
                cases h1
              refine ⟨⟨t, by omega, HS3.out.trans (skip_line l t htl2 HRR.out), HRD3.out.drewN _, hk3.drewN _⟩, ?_⟩
              rw [(HRD3.out.drewN _).pos, hpos]
              omega
            · have h10' : (r != 10) = true := by rw [bne_iff_ne]; exact h10
              have H10 := Lib.hid h10
              clear h10
              go_wp2
              go_quiet ((go_at_call 51; exact Calls.quiet_of (HP3.out _)))
              go_wp2
              have hmv := ((HRD3.out.drewN nq).move (j := t + 1) (by omega) ((t : Int) + 1) (by omega))
              go_roundw
              case rel => exact ⟨t + 1, by omega, by omega, HS3.out.trans (skip_on l t htl2 (by rw [HRR.out]; exact H10.out)), hmv, (hk3.drewN _).setOwn _ _⟩
              case measure =>
                rw [hmv.pos, hpos3]
                omega
          · have hdj : decide (t < m) = false := decide_eq_false hlt
            go_wp2
            go_quiet (fail)
            go_wp2
            have hm := HM.out
            refine ⟨⟨t, by omega, HS3.out.trans (by rw [skip_end _ _ (by omega), skip_end _ _ (by omega)]), HRD3.out.drewN _, hk3.drewN _⟩, ?_⟩
            rw [(HRD3.out.drewN _).pos, hpos]
            omega
      · have h1' : (r1 != 45) = true := by rw [bne_iff_ne]; exact h1
        subst h0
        refine HP0.out.mono ?_
        rintro _ _ ⟨rfl, m0, rfl⟩
        go_wp2_with fail
        refine (HP1.out _).mono ?_
        rintro _ _ ⟨rfl, m1, rfl⟩
        go_wp2
        refine bodyPost_ret (v := .tuple #[]) (by simp [results, Tryz.results32, go_sem]) rfl ?_
        have hk0 : ¬ (T.peek (l.drop q) 0 = 45 ∧ T.peek (l.drop q) 1 = 45) := by rw [HR0.out, HR1.out]; intro h; exact h1 h.2
        refine ⟨rfl, q, by omega, HSW.out.trans ?_, (HRD1.out.drewN _), (hkp1.drewN _)⟩
        rcases Nat.lt_or_ge q l.length with h | h
        · exact skip_here l q h (HST.out h) hk0
        · rw [skip_end l q h, List.drop_of_length_le h]
    · have h0' : (r0 != 45) = true := by rw [bne_iff_ne]; exact h0
      refine HP0.out.mono ?_
      rintro _ _ ⟨rfl, m0, rfl⟩
      go_wp2
      refine bodyPost_ret (v := .tuple #[]) (by simp [results, Tryz.results32, go_sem]) rfl ?_
      have hk0 : ¬ (T.peek (l.drop q) 0 = 45 ∧ T.peek (l.drop q) 1 = 45) := by rw [HR0.out]; intro h; exact h0 h.1
      refine ⟨rfl, q, by omega, HSW.out.trans ?_, (HRD1.out.drewN _), (hkp1.drewN _)⟩
      rcases Nat.lt_or_ge q l.length with h | h
      · exact skip_here l q h (HST.out h) hk0
      · rw [skip_end l q h, List.drop_of_length_le h]
end Go.Proofs.YtaojgcioljcpmaaGreatDoor
