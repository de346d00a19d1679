/- The walk of the law UtfCut. -/
import Derived.Test.YthhphmhddeoagaaDoorUtfCutPlain
namespace Go.Proofs.YthhphmhddeoagaaDoor
open Go.RowKit

theorem extract_take (s : ByteArray) (c : Nat) : (s.extract 0 c).data.toList = s.data.toList.take c := by
  rw [Lib.extract_data, List.drop_zero, Nat.sub_zero]

theorem size_list (s : ByteArray) : s.data.toList.length = s.size := by rw [Array.length_toList]; rfl

/-- the cells of a slice of code points that is not empty -/
theorem row_pts {w : World} {B : Nat} {v : Value} {l : List U.Pt} (h : Row w B 4 v l.length (ptsCells l)) (h0 : 0 < l.length) :
    ∃ b off cap, v = .slice (some ⟨b, off, none⟩) l.length cap ∧ b < B ∧ ∀ i (hi : i < l.length), w.cell? ⟨b, off + i * 4, none⟩ = some (.int .i32 (l[i]'hi).r) ∧ w.cell? ⟨b, off + i * 4 + 1, none⟩ = some (.int .i64 (l[i]'hi).p.a) ∧
      w.cell? ⟨b, off + i * 4 + 2, none⟩ = some (.int .i64 (l[i]'hi).p.l) ∧ w.cell? ⟨b, off + i * 4 + 3, none⟩ = some (.int .i64 (l[i]'hi).p.c) := by
  rcases h.2.2 with ⟨h1, _⟩ | ⟨b, off, cap, hv, hb, _, hx⟩
  · omega
  · refine ⟨b, off, cap, hv, hb, fun i hi => ?_⟩
    obtain ⟨y0, y1, y2, y3⟩ := ptsCells_at l i hi
    refine ⟨?_, ?_, ?_, ?_⟩
    · have := hx _ _ y0; rwa [Nat.mul_comm] at this
    · have := hx _ _ y1; rwa [Nat.mul_comm] at this
    · have := hx _ _ y2; rwa [Nat.mul_comm] at this
    · have := hx _ _ y3; rwa [Nat.mul_comm] at this

theorem eE_zero (l : List UInt8) (h : U.eE l = 0) : U.eP l = U.zero := by
  rcases eE_cases l with ⟨_, _, h3⟩ | ⟨h3, _⟩
  · exact h3
  · omega

set_option maxHeartbeats 2000000 in
theorem UtfCut_walk (s : ByteArray) (x : Int) (w : World) (hs : s.size ≤ maxLen) (hT : Lib.Utf8Tabs 0 1 w) (h2 : 2 ≤ w.heap.size) (_hx : (Lit.int .i64 x).wf = true) :
    Calls Tryd.prog 7 #[.string s, .int .i64 x] w fun e w' => e = .returned (.bool true) ∧ Below w.heap.size w w' := by
  have hsm : s.size ≤ 9223372036854775807 := by unfold maxLen at hs; omega
  have ck := known_any w hT h2
  have HT := Lib.hid hT
  clear hT
  have cP := fun W hT2 h => Points_any s W hs hT2 h
  by_cases hE : U.eE s.data.toList = 0
  · have hP := eE_zero _ hE
    obtain ⟨hrun, hlen⟩ := U.run_right _ hE
    rw [size_list] at hlen
    obtain ⟨L, hL⟩ : ∃ z, U.pts s.data.toList = z := ⟨_, rfl⟩
    have hLl : L.length ≤ 4000 := by rw [← hL]; exact pts_len _
    rw [hE, hP, hL] at cP
    unfold diagV U.zero at cP
    have HP := Lib.hid cP
    have HE := Lib.hid hE
    have HL := Lib.hid hL
    have HRun := Lib.hid hrun
    clear cP hE hP hL hrun
    by_cases h0 : x < 0
    · go_enter Tryd.func7, Tryd.ntmps7
      go_wp2_with (first | (go_at_call 8; refine ck.mono ?_; rintro e w1 ⟨rfl, hb1⟩) | (go_at_call 9; refine (HP.out _ (tabs_below w.heap.size HT.out hb1 h2) (by have := hb1.size; omega)).mono ?_; rintro e w2 ⟨v2, rfl, hb2, own2⟩))
      go_ret
      exact ⟨rfl, (below_call hb1 hb2).alloc ((below_call hb1 hb2).size) _⟩
    obtain ⟨c, rfl⟩ := Int.eq_ofNat_of_zero_le (show 0 ≤ x by omega)
    by_cases h1 : s.size < c
    · have h1' : (s.size : Int) < (c : Int) := by omega
      go_enter Tryd.func7, Tryd.ntmps7
      go_wp2_with (first | (go_at_call 8; refine ck.mono ?_; rintro e w1 ⟨rfl, hb1⟩) | (go_at_call 9; refine (HP.out _ (tabs_below w.heap.size HT.out hb1 h2) (by have := hb1.size; omega)).mono ?_; rintro e w2 ⟨v2, rfl, hb2, own2⟩))
      go_ret
      exact ⟨rfl, (below_call hb1 hb2).alloc ((below_call hb1 hb2).size) _⟩
    have h1' : ¬ (s.size : Int) < (c : Int) := by omega
    have h1c : (c : Int) ≤ (s.size : Int) := by omega
    have cQ := fun W hT2 h => Points_any (s.extract 0 c) W (by simp; unfold maxLen; omega) hT2 h
    rw [extract_take] at cQ
    obtain ⟨M, hM⟩ : ∃ z, U.pts (s.data.toList.take c) = z := ⟨_, rfl⟩
    by_cases h3 : c = s.size
    · subst h3
      clear hM cQ
      go_enter Tryd.func7, Tryd.ntmps7
      go_wp2_with fail
      refine ck.mono ?_
      rintro e w1 ⟨rfl, hb1⟩
      have s1 := hb1.size
      go_wp2_with fail
      refine (HP.out _ (tabs_below w.heap.size HT.out hb1 h2) (by omega)).mono ?_
      rintro e w2 ⟨v2, rfl, hb2, own2⟩
      have y2 := below_call hb1 hb2
      have s2 := hb2.size
      obtain ⟨oa, cp, hv2⟩ := own_slice own2
      subst hv2
      go_wp2_with fail
      have x2 : Below w.heap.size w (w2.alloc (.cells #[.int .i64 0, .int .i64 0, .int .i64 0, .int .i64 0] 28)) := y2.alloc y2.size _
      refine (HP.out _ (tabs_below w.heap.size HT.out x2 h2) (by simp; omega)).mono ?_
      rintro e w3 ⟨v3, rfl, hb3, own3⟩
      have y3 := below_call x2 hb3
      obtain ⟨ob, cb, hv3⟩ := own_slice own3
      subst hv3
      go_wp2
      go_ret
      exact ⟨rfl, y3.alloc y3.size _⟩
    · have hlt : c < s.size := by omega
      have h3' : ((c : Int) == (s.size : Int)) = false := by rw [beq_eq_false_iff_ne]; omega
      have hL0 : 0 < L.length := by
        have hr := HRun.out
        rw [HL.out] at hr
        by_cases hz : L.length = 0
        · obtain rfl : L = [] := List.eq_nil_of_length_eq_zero hz
          have h5 := congrArg List.length hr.1
          rw [size_list, List.length_nil] at h5
          omega
        · omega
      obtain ⟨E2, hE2⟩ : ∃ z, U.eE (s.data.toList.take c) = z := ⟨_, rfl⟩
      obtain ⟨P2, hP2⟩ : ∃ z, U.eP (s.data.toList.take c) = z := ⟨_, rfl⟩
      rw [hE2, hP2, hM] at cQ
      unfold diagV at cQ
      have HQ := Lib.hid cQ
      have HM := Lib.hid hM
      have HE2 := Lib.hid hE2
      have HP2 := Lib.hid hP2
      clear cQ hM hE2 hP2
      go_enter Tryd.func7, Tryd.ntmps7
      go_wp2_with fail
      refine ck.mono ?_
      rintro e w1 ⟨rfl, hb1⟩
      have s1 := hb1.size
      go_wp2_with fail
      refine (HP.out _ (tabs_below w.heap.size HT.out hb1 h2) (by omega)).mono ?_
      rintro e w2 ⟨v2, rfl, hb2, own2⟩
      have y2 := below_call hb1 hb2
      have s2 := hb2.size
      obtain ⟨b, off, cp, rfl, hbB, hcells⟩ := row_pts (Row.own own2 (Nat.le_refl _)) hL0
      clear own2
      have HC2 := Lib.hid hcells
      clear hcells
      go_wp2_with fail
      have x2 : Below w.heap.size w (w2.alloc (.cells #[.int .i64 0, .int .i64 0, .int .i64 0, .int .i64 0] 28)) := y2.alloc y2.size _
      refine (HQ.out _ (tabs_below w.heap.size HT.out x2 h2) (by simp; omega)).mono ?_
      rintro e w3 ⟨v3, rfl, hb3, own3⟩
      have y3 := below_call x2 hb3
      have s3 := hb3.size
      simp only [World.size_alloc] at s3
      obtain ⟨ml, hml⟩ : ∃ m, M.length = m := ⟨_, rfl⟩
      rw [hml] at own3
      obtain ⟨ob, cb, hv3⟩ := own_slice own3
      subst hv3
      have HML := Lib.hid hml
      clear own3 hml
      go_wp2_with fail
      obtain ⟨w4, hw4⟩ : ∃ W, w3.alloc (.cells #[.int .i64 E2, .int .i64 P2.a, .int .i64 P2.l, .int .i64 P2.c] 28) = W := ⟨_, rfl⟩
      have y4 : Below w.heap.size w w4 := by rw [← hw4]; exact y3.alloc y3.size _
      have d4 : Blk w4 w3.heap.size #[.int .i64 E2, .int .i64 P2.a, .int .i64 P2.l, .int .i64 P2.c] 28 := by rw [← hw4]; exact Blk.new _ _ _ _ rfl
      have k4 : Below w2.heap.size w2 w4 := by
        rw [← hw4]
        exact (((Below.refl w2.heap.size w2).alloc (Nat.le_refl _) _).trans (hb3.mono (by simp))).alloc (by omega) _
      have HC4 := Lib.hid (fun i (hi : i < L.length) => (k4.cell (p := ⟨b, off + i * 4 + 1, none⟩) hbB).trans (HC2.out i hi).2.1)
      have HC5 := Lib.hid (fun i (hi : i < L.length) => (k4.cell (p := ⟨b, off + i * 4 + 2, none⟩) hbB).trans (HC2.out i hi).2.2.1)
      have HC6 := Lib.hid (fun i (hi : i < L.length) => (k4.cell (p := ⟨b, off + i * 4 + 3, none⟩) hbB).trans (HC2.out i hi).2.2.2)
      have g0 : w4.cell? ⟨w3.heap.size, 0, none⟩ = some (.int .i64 E2) := d4.cell 0
      have g1 : w4.cell? ⟨w3.heap.size, 1, none⟩ = some (.int .i64 P2.a) := d4.cell 1
      have g2 : w4.cell? ⟨w3.heap.size, 2, none⟩ = some (.int .i64 P2.l) := d4.cell 2
      have g3 : w4.cell? ⟨w3.heap.size, 3, none⟩ = some (.int .i64 P2.c) := d4.cell 3
      rw [hw4]
      clear hw4 d4 hb3
      go_loop [9] (fun u => ∃ n : Nat, ∃ hn : n < L.length, u = .int .i64 n ∧ (L[n]'hn).p.a ≤ c) (fun u => L.length - (intOf u).toNat)
      case atStart =>
        refine ⟨0, hL0, rfl, ?_⟩
        have hr := HRun.out
        rw [HL.out] at hr
        have := (U.run_split L _ _ _ 0 hL0 hr)
        obtain ⟨t1, t2, _, h1, _, h4⟩ := this
        have : t1 = [] := h1.1
        rw [h4, this]
        simp [U.start]
      case round =>
        obtain ⟨n, hn, rfl, hle⟩ := hrel
        by_cases hm : n + 1 < L.length
        · have hm' : (n : Int) + 1 < (L.length : Int) := by omega
          obtain ⟨z, hz⟩ : ∃ z, (L[n + 1]'hm).p.a = z := ⟨_, rfl⟩
          have cz : w4.cell? ⟨b, off + (n + 1) * 4 + 1, none⟩ = some (.int .i64 z) := by rw [← hz]; exact HC4.out (n + 1) hm
          have i1 : (0 : Int) ≤ (n : Int) + 1 := by omega
          have i2 : ((n : Int) + 1).toNat = n + 1 := by omega
          by_cases hzc : z ≤ c
          · have HZ := Lib.hid hz
            clear hz
            go_wp2
            go_round
            case rel => exact ⟨n + 1, hm, by go_num, by rw [HZ.out]; exact hzc⟩
            case measure => simp [intOf]; omega
          · have HZ := Lib.hid hz
            clear hz
            have hr := HRun.out
            rw [HL.out] at hr
            have cq0 : w4.cell? ⟨b, off + n * 4 + 1, none⟩ = some (.int .i64 (L[n]'hn).p.a) := HC4.out n hn
            have cq1 : w4.cell? ⟨b, off + n * 4 + 2, none⟩ = some (.int .i64 (L[n]'hn).p.l) := HC5.out n hn
            have cq2 : w4.cell? ⟨b, off + n * 4 + 3, none⟩ = some (.int .i64 (L[n]'hn).p.c) := HC6.out n hn
            have ln : (n : Int) < (L.length : Int) := by omega
            by_cases hq : (L[n]'hn).p.a = c
            · have hcut := U.cut_between L s.data.toList U.start _ n hn hr c (by rw [hq]; simp [U.start])
              obtain ⟨r1, r2, r3, _⟩ := U.right_tells (by rw [List.length_take, size_list]; omega) hcut
              have e1 : E2 = 0 := by rw [← HE2.out]; exact r2
              have e2 : P2 = ⟨0, 0, 0⟩ := by rw [← HP2.out]; exact r3
              have e3 : ml = n := by rw [← HML.out, ← HM.out, r1, List.length_take]; omega
              rw [hq] at cq0
              subst e1 e2 e3
              clear hcut r1 r2 r3 hr hq cq1 cq2 hle
              go_wp2
              go_ret
              exact ⟨rfl, y4⟩
            · obtain ⟨r1, r2, r3⟩ := U.cut_within L s.data.toList _ n hn hr (by rw [size_list]; omega) c (by omega) (by rw [size_list]; exact hlt) (fun h' => by rw [HZ.out]; omega)
              have e1 : E2 = 90 := by rw [← HE2.out]; exact r1
              have e2 : P2 = (L[n]'hn).p := by rw [← HP2.out]; exact r2
              have e3 : ml = 0 := by rw [← HML.out, ← HM.out, r3]; rfl
              rw [← e2] at cq0 cq1 cq2 hq
              have hq' : (P2.a == (c : Int)) = false := by rw [beq_eq_false_iff_ne]; exact hq
              subst e1 e3
              clear r1 r2 r3 hr hq hle e2
              go_wp2
              go_quiet (fail)
              go_wp2
              go_ret
              exact ⟨rfl, below_drewN y4 _⟩
        · have hm' : ¬ ((n : Int) + 1 < (L.length : Int)) := by omega
          have hr := HRun.out
          rw [HL.out] at hr
          have cq0 : w4.cell? ⟨b, off + n * 4 + 1, none⟩ = some (.int .i64 (L[n]'hn).p.a) := HC4.out n hn
          have cq1 : w4.cell? ⟨b, off + n * 4 + 2, none⟩ = some (.int .i64 (L[n]'hn).p.l) := HC5.out n hn
          have cq2 : w4.cell? ⟨b, off + n * 4 + 3, none⟩ = some (.int .i64 (L[n]'hn).p.c) := HC6.out n hn
          have ln : (n : Int) < (L.length : Int) := by omega
          by_cases hq : (L[n]'hn).p.a = c
          · have hcut := U.cut_between L s.data.toList U.start _ n hn hr c (by rw [hq]; simp [U.start])
            obtain ⟨r1, r2, r3, _⟩ := U.right_tells (by rw [List.length_take, size_list]; omega) hcut
            have e1 : E2 = 0 := by rw [← HE2.out]; exact r2
            have e2 : P2 = ⟨0, 0, 0⟩ := by rw [← HP2.out]; exact r3
            have e3 : ml = n := by rw [← HML.out, ← HM.out, r1, List.length_take]; omega
            rw [hq] at cq0
            subst e1 e2 e3
            clear hcut r1 r2 r3 hr hq cq1 cq2 hle
            go_wp2
            go_ret
            exact ⟨rfl, y4⟩
          · obtain ⟨r1, r2, r3⟩ := U.cut_within L s.data.toList _ n hn hr (by rw [size_list]; omega) c (by omega) (by rw [size_list]; exact hlt) (fun h' => absurd h' hm)
            have e1 : E2 = 90 := by rw [← HE2.out]; exact r1
            have e2 : P2 = (L[n]'hn).p := by rw [← HP2.out]; exact r2
            have e3 : ml = 0 := by rw [← HML.out, ← HM.out, r3]; rfl
            rw [← e2] at cq0 cq1 cq2 hq
            have hq' : (P2.a == (c : Int)) = false := by rw [beq_eq_false_iff_ne]; exact hq
            subst e1 e3
            clear r1 r2 r3 hr hq hle e2
            go_wp2
            go_quiet (fail)
            go_wp2
            go_ret
            exact ⟨rfl, below_drewN y4 _⟩
  · have hE' : (U.eE s.data.toList == 0) = false := by rw [beq_eq_false_iff_ne]; exact hE
    obtain ⟨E, hEE⟩ : ∃ z, U.eE s.data.toList = z := ⟨_, rfl⟩
    obtain ⟨P, hP⟩ : ∃ z, U.eP s.data.toList = z := ⟨_, rfl⟩
    rw [hEE, hP] at cP
    rw [hEE] at hE'
    unfold diagV at cP
    have HP := Lib.hid cP
    clear cP hEE hP hE
    go_enter Tryd.func7, Tryd.ntmps7
    go_wp2_with (first | (go_at_call 8; refine ck.mono ?_; rintro e w1 ⟨rfl, hb1⟩) | (go_at_call 9; refine (HP.out _ (tabs_below w.heap.size HT.out hb1 h2) (by have := hb1.size; omega)).mono ?_; rintro e w2 ⟨v2, rfl, hb2, own2⟩))
    go_ret
    exact ⟨rfl, (below_call hb1 hb2).alloc ((below_call hb1 hb2).size) _⟩
end Go.Proofs.YthhphmhddeoagaaDoor
