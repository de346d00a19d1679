/- The walk of the law UtfJoins. -/
import Derived.Test.YthhphmhddeoagaaDoorUtfO
namespace Go.Proofs.YthhphmhddeoagaaDoor
open Go.RowKit

namespace U
/-- how far a place can be -/
def Bd (p : Pos) (k : Int) : Prop := 0 ≤ p.a ∧ p.a ≤ k ∧ 1 ≤ p.l ∧ p.l ≤ k + 1 ∧ 1 ≤ p.c ∧ p.c ≤ k + 1
theorem bd_next (p : Pos) (r : Int) (n : Nat) (k : Int) (h : Bd p k) (hn : 1 ≤ n) : Bd (next p r n) (k + n) := by
  obtain ⟨h1, h2, h3, h4, h5, h6⟩ := h
  unfold Bd next
  split <;> simp only <;> omega
theorem run_bd : ∀ (l : List Pt) (s : List UInt8) (p q : Pos) (k : Int), Run s p l q → Bd p k → Bd q (k + s.length) ∧ ∀ x ∈ l, Bd x.p (k + s.length)
  | [], s, p, q, k, h, hb => by
    obtain ⟨rfl, rfl⟩ := h
    refine ⟨?_, fun x hx => by cases hx⟩
    simpa using hb
  | x :: l, s, p, q, k, h, hb => by
    obtain ⟨hp, hv, b, rfl, t⟩ := h
    have he := enc_length x.r
    have ih := run_bd l b _ q _ t (bd_next p x.r _ k hb he.1)
    have e : k + ((Go.Lib.encodeRune x.r).length : Int) + (b.length : Int) = k + ((Go.Lib.encodeRune x.r ++ b).length : Int) := by rw [List.length_append]; omega
    rw [e] at ih
    refine ⟨ih.1, fun y hy => ?_⟩
    rcases List.mem_cons.1 hy with rfl | hy
    · rw [hp]
      obtain ⟨h1, h2, h3, h4, h5, h6⟩ := hb
      rw [← e]
      unfold Bd
      omega
    · exact ih.2 y hy

theorem bd_start : Bd start 0 := by unfold Bd start; simp only; omega

/-- of two texts, one behind the other -/
theorem joins (s t : List UInt8) (hs : eE s = 0) (ht : eE t = 0) (hl : s.length + t.length ≤ 4000) :
    eE (s ++ t) = 0 ∧ pts (s ++ t) = pts s ++ (pts t).map fun x => ⟨x.r, shift (endP s) x.p⟩ := by
  obtain ⟨r1, _⟩ := run_right s hs
  obtain ⟨r2, _⟩ := run_right t ht
  have r3 := run_shift (endP s) _ _ _ _ r2 (by unfold start; simp only; omega)
  rw [shift_start] at r3
  have r4 := run_append _ _ _ _ _ _ _ r1 r3
  obtain ⟨h1, h2, _, _⟩ := right_tells (by rw [List.length_append]; exact hl) r4
  exact ⟨h2, h1⟩
end U

theorem join_list (s t : ByteArray) : (s ++ t).data.toList = s.data.toList ++ t.data.toList := by rw [ByteArray.data_append, Array.toList_append]

set_option maxRecDepth 100000 in
set_option maxHeartbeats 4000000 in
theorem UtfJoins_walk (s t : ByteArray) (w : World) (hs : s.size ≤ maxLen) (ht : t.size ≤ maxLen) (hT : Lib.Utf8Tabs 0 1 w) (h2 : 2 ≤ w.heap.size) :
    Calls Tryd.prog 6 #[.string s, .string t] w fun e w' => e = .returned (.bool true) ∧ Below w.heap.size w w' := by
  have hsm : s.size ≤ 9223372036854775807 := by unfold maxLen at hs; omega
  have htm : t.size ≤ 9223372036854775807 := by unfold maxLen at ht; omega
  have ck := known_any w hT h2
  have HT := Lib.hid hT
  clear hT
  have cP := fun W hT2 h => Points_any s W hs hT2 h
  have cQ := fun W hT2 h => Points_any t W ht hT2 h
  have cE := fun W hT2 h => End_any s W hs hT2 h
  obtain ⟨E1, hE1⟩ : ∃ z, U.eE s.data.toList = z := ⟨_, rfl⟩
  obtain ⟨P1, hP1⟩ : ∃ z, U.eP s.data.toList = z := ⟨_, rfl⟩
  obtain ⟨Q, hQ⟩ : ∃ z, U.endP s.data.toList = z := ⟨_, rfl⟩
  obtain ⟨L1, hL1⟩ : ∃ z, U.pts s.data.toList = z := ⟨_, rfl⟩
  obtain ⟨E2, hE2⟩ : ∃ z, U.eE t.data.toList = z := ⟨_, rfl⟩
  obtain ⟨P2, hP2⟩ : ∃ z, U.eP t.data.toList = z := ⟨_, rfl⟩
  obtain ⟨L2, hL2⟩ : ∃ z, U.pts t.data.toList = z := ⟨_, rfl⟩
  rw [hE1, hP1, hL1] at cP
  rw [hE2, hP2, hL2] at cQ
  rw [hE1, hP1, hQ] at cE
  have HE1 := Lib.hid hE1; have HP1 := Lib.hid hP1; have HQ1 := Lib.hid hQ; have HL1 := Lib.hid hL1
  have HE2 := Lib.hid hE2; have HP2 := Lib.hid hP2; have HL2 := Lib.hid hL2
  clear hE1 hP1 hQ hL1 hE2 hP2 hL2
  -- the three calls
  by_cases he1 : E1 = 0
  · by_cases he2 : E2 = 0
    · by_cases hlen : s.size + t.size ≤ 4000
      · have hss : s.size ≤ 4000 := by have := (U.run_right s.data.toList (by rw [HE1.out]; exact he1)).2; rwa [size_list] at this
        have hts : t.size ≤ 4000 := by have := (U.run_right t.data.toList (by rw [HE2.out]; exact he2)).2; rwa [size_list] at this
        have hj := U.joins s.data.toList t.data.toList (by rw [HE1.out]; exact he1) (by rw [HE2.out]; exact he2) (by rw [size_list, size_list]; exact hlen)
        rw [HL1.out, HL2.out, HQ1.out, ← join_list] at hj
        obtain ⟨hj1, hj2⟩ := hj
        have hj3 := eE_zero _ hj1
        have hp1 : P1 = ⟨0, 0, 0⟩ := by rw [← HP1.out]; exact eE_zero _ (by rw [HE1.out]; exact he1)
        have hp2 : P2 = ⟨0, 0, 0⟩ := by rw [← HP2.out]; exact eE_zero _ (by rw [HE2.out]; exact he2)
        obtain ⟨A, hA⟩ : ∃ z, L1 ++ (L2.map fun x => (⟨x.r, U.shift Q x.p⟩ : U.Pt)) = z := ⟨_, rfl⟩
        rw [hA] at hj2
        have hstz : (s ++ t).size = s.size + t.size := by rw [ByteArray.size_append]
        have cA := fun W hT2 h => Points_any (s ++ t) W (by rw [hstz]; unfold maxLen; omega) hT2 h
        rw [hj1, hj2, hj3] at cA
        have hlA : A.length = L1.length + L2.length := by rw [← hA]; simp
        have hq0 : U.Bd Q 4000 ∧ ∀ x ∈ L2, U.Bd x.p 4000 := by
          obtain ⟨q1, _⟩ := U.run_right s.data.toList (by rw [HE1.out]; exact he1)
          obtain ⟨q2, _⟩ := U.run_right t.data.toList (by rw [HE2.out]; exact he2)
          have b1 := (U.run_bd _ _ _ _ 0 q1 U.bd_start).1
          have b2 := (U.run_bd _ _ _ _ 0 q2 U.bd_start).2
          rw [size_list, HQ1.out] at b1
          rw [size_list, HL2.out] at b2
          refine ⟨?_, fun x hx => ?_⟩
          · unfold U.Bd at b1 ⊢; omega
          · have := b2 x hx; unfold U.Bd at this ⊢; omega
        obtain ⟨⟨q1, q2, q3, q4, q5, q6⟩, hbd2⟩ := hq0
        have hl1 : L1.length ≤ 4000 := by rw [← HL1.out]; exact pts_len _
        have hl2 : L2.length ≤ 4000 := by rw [← HL2.out]; exact pts_len _
        rw [he1, hp1] at cP cE
        rw [he2, hp2] at cQ
        unfold diagV U.zero at cA
        unfold posV diagV at cE
        unfold diagV at cP cQ
        have HP := Lib.hid cP
        have HQ := Lib.hid cQ
        have HE := Lib.hid cE
        clear cP cQ cE
        have HA := Lib.hid hA
        have HCA := Lib.hid cA
        have HLA := Lib.hid hlA
        have HBD := Lib.hid hbd2
        have hsum : (s.size : Int) + (t.size : Int) ≤ 4000 := by omega
        obtain ⟨n1, hn1⟩ : ∃ z, L1.length = z := ⟨_, rfl⟩
        obtain ⟨n2, hn2⟩ : ∃ z, L2.length = z := ⟨_, rfl⟩
        have HN1 := Lib.hid hn1
        have HN2 := Lib.hid hn2
        clear hj1 hj2 hj3 hA cA hlA hbd2 hn1 hn2 hstz
        have hsz2 : ¬ 9223372036854775807 < s.size + t.size := by omega
        go_enter Tryd.func6, Tryd.ntmps6
        go_wp2_with fail
        refine ck.mono ?_
        rintro e w1 ⟨rfl, hb1⟩
        have s1 := hb1.size
        go_wp2_with fail
        refine (HP.out _ (tabs_below w.heap.size HT.out hb1 h2) (by omega)).mono ?_
        rintro e w2 ⟨v2, rfl, hb2, own2⟩
        have y2 := below_call hb1 hb2
        have s2 := hb2.size
        obtain ⟨oa, ca, hv2⟩ := own_slice own2
        subst hv2
        have r2 := Row.own own2 (Nat.le_refl _)
        clear own2
        go_wp2_with fail
        have x2 : Below w.heap.size w (w2.alloc (.cells #[.int .i64 0, .int .i64 0, .int .i64 0, .int .i64 0] 28)) := y2.alloc y2.size _
        refine (HQ.out _ (tabs_below w.heap.size HT.out x2 h2) (by simp; omega)).mono ?_
        rintro e w3 ⟨v3, rfl, hb3, own3⟩
        have y3 := below_call x2 hb3
        have s3 := hb3.size
        simp only [World.size_alloc] at s3
        have hb3b : Below (w2.heap.size + 1) (w2.alloc (.cells #[.int .i64 0, .int .i64 0, .int .i64 0, .int .i64 0] 28)) w3 := by simpa using hb3
        obtain ⟨ob, cb, hv3⟩ := own_slice own3
        subst hv3
        have d1 : Blk w3 w2.heap.size #[.int .i64 0, .int .i64 0, .int .i64 0, .int .i64 0] 28 := (Blk.new w2 _ _ _ rfl).below hb3b (by omega)
        have r2b : Row w3 w2.heap.size 4 (.slice oa L1.length ca) L1.length (ptsCells L1) := r2.below (((Below.refl w2.heap.size w2).alloc (Nat.le_refl _) _).trans (hb3b.mono (by omega)))
        have r3 : Row w3 w3.heap.size 4 (.slice ob L2.length cb) L2.length (ptsCells L2) := Row.own own3 (Nat.le_refl _)
        clear own3
        go_wp2_with fail
        have x3 : Below w.heap.size w (w3.alloc (.cells #[.int .i64 0, .int .i64 0, .int .i64 0, .int .i64 0] 28)) := y3.alloc y3.size _
        refine (HE.out _ (tabs_below w.heap.size HT.out x3 h2) (by simp; omega)).mono ?_
        rintro e w4 ⟨rfl, hb4⟩
        have y4 := below_call x3 hb4
        have s4 := hb4.size
        simp only [World.size_alloc] at s4
        have hb4b : Below (w3.heap.size + 1) (w3.alloc (.cells #[.int .i64 0, .int .i64 0, .int .i64 0, .int .i64 0] 28)) w4 := by simpa using hb4
        have d1b : Blk w4 w2.heap.size #[.int .i64 0, .int .i64 0, .int .i64 0, .int .i64 0] 28 := (d1.alloc _).below hb4b (by omega)
        have d2b : Blk w4 w3.heap.size #[.int .i64 0, .int .i64 0, .int .i64 0, .int .i64 0] 28 := (Blk.new w3 _ _ _ rfl).below hb4b (by omega)
        have r2c : Row w4 w2.heap.size 4 (.slice oa L1.length ca) L1.length (ptsCells L1) := r2b.below (((Below.refl w2.heap.size w3).alloc (by omega) _).trans (hb4b.mono (by omega)))
        have r3b : Row w4 w3.heap.size 4 (.slice ob L2.length cb) L2.length (ptsCells L2) := r3.below (((Below.refl w3.heap.size w3).alloc (Nat.le_refl _) _).trans (hb4b.mono (by omega)))
        have l2 : w2.heap.size < w4.heap.size := by omega
        have l3 : w3.heap.size < w4.heap.size := by omega
        have g0 : w4.cell? ⟨w2.heap.size, 0, none⟩ = some (.int .i64 0) := d1b.cell 0
        have g1 : w4.cell? ⟨w2.heap.size, 1, none⟩ = some (.int .i64 0) := d1b.cell 1
        have g2 : w4.cell? ⟨w2.heap.size, 2, none⟩ = some (.int .i64 0) := d1b.cell 2
        have g3 : w4.cell? ⟨w2.heap.size, 3, none⟩ = some (.int .i64 0) := d1b.cell 3
        have k0 : w4.cell? ⟨w3.heap.size, 0, none⟩ = some (.int .i64 0) := d2b.cell 0
        have k1 : w4.cell? ⟨w3.heap.size, 1, none⟩ = some (.int .i64 0) := d2b.cell 1
        have k2 : w4.cell? ⟨w3.heap.size, 2, none⟩ = some (.int .i64 0) := d2b.cell 2
        have k3 : w4.cell? ⟨w3.heap.size, 3, none⟩ = some (.int .i64 0) := d2b.cell 3
        go_wp2_with fail
        obtain ⟨w5, hw5⟩ : ∃ W, ((w4.alloc (.cells #[.int .i64 Q.a, .int .i64 Q.l, .int .i64 Q.c] 26)).alloc (.cells #[.int .i64 0, .int .i64 0, .int .i64 0, .int .i64 0] 28)) = W := ⟨_, rfl⟩
        have k5 : Below w4.heap.size w4 w5 := by rw [← hw5]; exact ((Below.refl _ _).alloc (Nat.le_refl _) _).alloc (by simp) _
        have p5 : Blk w5 w4.heap.size #[.int .i64 Q.a, .int .i64 Q.l, .int .i64 Q.c] 26 := by rw [← hw5]; exact (Blk.new w4 _ _ _ rfl).alloc _
        have d5 : Blk w5 (w4.heap.size + 1) #[.int .i64 0, .int .i64 0, .int .i64 0, .int .i64 0] 28 := by rw [← hw5]; exact Blk.new _ _ _ _ (by simp)
        have y5 : Below w.heap.size w w5 := below_call y4 k5
        have s5 : w5.heap.size = w4.heap.size + 2 := by rw [← hw5]; simp
        rw [hw5]
        clear hw5
        refine (HCA.out _ (tabs_below w.heap.size HT.out y5 h2) (by omega)).mono ?_
        rintro e w6 ⟨v6, rfl, hb6, own6⟩
        have y6 := below_call y5 hb6
        have s6 := hb6.size
        have r6 := Row.own own6 (Nat.le_refl _)
        clear own6
        obtain ⟨oc, cc, hv6⟩ := r6.slice
        subst hv6
        have hlA2 := HLA.out
        rw [hlA2] at r6 ⊢
        have HLA2 := Lib.hid hlA2
        clear hlA2
        have p6 := p5.below hb6 (by omega)
        have d6 := d5.below hb6 (by omega)
        have k6 : Below w4.heap.size w4 w6 := k5.trans (hb6.mono (by omega))
        have u0 : w6.cell? ⟨w4.heap.size + 1, 0, none⟩ = some (.int .i64 0) := d6.cell 0
        have u1 : w6.cell? ⟨w4.heap.size + 1, 1, none⟩ = some (.int .i64 0) := d6.cell 1
        have u2 : w6.cell? ⟨w4.heap.size + 1, 2, none⟩ = some (.int .i64 0) := d6.cell 2
        have u3 : w6.cell? ⟨w4.heap.size + 1, 3, none⟩ = some (.int .i64 0) := d6.cell 3
        have l6 : w4.heap.size + 1 < w6.heap.size := by omega
        go_wp2_with fail
        obtain ⟨w7, hw7⟩ : ∃ W, w6.alloc (.cells #[.int .i64 0, .int .i64 0, .int .i64 0, .int .i64 0] 28) = W := ⟨_, rfl⟩
        have k7 : Below w6.heap.size w6 w7 := by rw [← hw7]; exact (Below.refl _ _).alloc (Nat.le_refl _) _
        have s7 : w7.heap.size = w6.heap.size + 1 := by rw [← hw7]; simp
        rw [hw7]
        clear hw7
        have y7 : Below w.heap.size w w7 := below_call y6 k7
        have p7 := p6.below k7 (by omega)
        have r6c := r6.below k7
        have r2d := (r2c.below (k6.mono (by omega))).below (k7.mono (by omega))
        have r3d := (r3b.below (k6.mono (by omega))).below (k7.mono (by omega))
        have HR6 := Lib.hid r6c
        have HR2 := Lib.hid r2d
        have HR3 := Lib.hid r3d
        clear r6 r6c r2 r2b r2c r2d r3 r3b r3d g0 g1 g2 g3 k0 k1 k2 k3 u0 u1 u2 u3
        go_loopw [76] (fun u wr => ∃ i : Nat, u = .int .i64 i ∧ i ≤ L1.length + L2.length ∧ Below w7.heap.size w7 wr) (fun u _ => L1.length + L2.length - (intOf u).toNat)
        case atStart => exact ⟨0, rfl, Nat.zero_le _, Below.refl _ _⟩
        case round =>
          obtain ⟨i, rfl, hi, hbel⟩ := hrel
          have sr := hbel.size
          by_cases hlt : i < L1.length + L2.length
          · have hiA : i < A.length := by rw [HLA2.out]; exact hlt
            have hr6' := HR6.out
            rw [← HLA2.out] at hr6'
            obtain ⟨b6, o6, c6, hv6, hb6B, hc6⟩ := row_pts hr6' (by omega)
            rw [HLA2.out] at hv6
            simp only [Value.slice.injEq, true_and] at hv6
            obtain ⟨rfl, rfl⟩ := hv6
            obtain ⟨x0, x1, x2', x3'⟩ := hc6 i hiA
            clear hc6 hr6'
            have lb6 : b6 < wr.heap.size := by omega
            have lq : w4.heap.size < wr.heap.size := by omega
            have e0 := (hbel.cell (p := ⟨b6, o6 + i * 4, none⟩) (show b6 < _ by omega)).trans x0
            have e1 := (hbel.cell (p := ⟨b6, o6 + i * 4 + 1, none⟩) (show b6 < _ by omega)).trans x1
            have e2 := (hbel.cell (p := ⟨b6, o6 + i * 4 + 2, none⟩) (show b6 < _ by omega)).trans x2'
            have e3 := (hbel.cell (p := ⟨b6, o6 + i * 4 + 3, none⟩) (show b6 < _ by omega)).trans x3'
            clear x0 x1 x2' x3'
            have hlt' : (i : Int) < (L1.length : Int) + (L2.length : Int) := by omega
            by_cases hi1 : i < L1.length
            · have hA1 : A[i]'hiA = L1[i]'hi1 := by have := HA.out; subst this; exact List.getElem_append_left hi1
              obtain ⟨b2, o2, c2, hv2, hb2B, hc2⟩ := row_pts HR2.out (by omega)
              simp only [Value.slice.injEq, true_and] at hv2
              obtain ⟨rfl, rfl⟩ := hv2
              obtain ⟨x0, x1, x2', x3'⟩ := hc2 i hi1
              have f0 := (hbel.cell (p := ⟨b2, o2 + i * 4, none⟩) (show b2 < _ by omega)).trans x0
              have f1 := (hbel.cell (p := ⟨b2, o2 + i * 4 + 1, none⟩) (show b2 < _ by omega)).trans x1
              have f2 := (hbel.cell (p := ⟨b2, o2 + i * 4 + 2, none⟩) (show b2 < _ by omega)).trans x2'
              have f3 := (hbel.cell (p := ⟨b2, o2 + i * 4 + 3, none⟩) (show b2 < _ by omega)).trans x3'
              rw [hA1] at e0 e1 e2 e3
              obtain ⟨z, hz⟩ : ∃ z, L1[i]'hi1 = z := ⟨_, rfl⟩
              rw [hz] at e0 e1 e2 e3 f0 f1 f2 f3
              have lb2 : b2 < wr.heap.size := by omega
              have hi1' : (i : Int) < (L1.length : Int) := by omega
              clear x0 x1 x2' x3' hc2 hA1 hz
              go_wp2
              go_roundw
              case rel => exact ⟨i + 1, by go_num, by omega, (hbel.alloc (by omega) _).alloc (by simp; omega) _⟩
              case measure => simp [intOf]; omega
            · obtain ⟨j, rfl⟩ : ∃ j, i = L1.length + j := ⟨i - L1.length, by omega⟩
              have hj : j < L2.length := by omega
              have hA1 : A[L1.length + j]'hiA = ⟨(L2[j]'hj).r, U.shift Q (L2[j]'hj).p⟩ := by
                have := HA.out; subst this
                rw [List.getElem_append_right (by omega)]
                simp
              obtain ⟨b3, o3, c3, hv3, hb3B, hc3⟩ := row_pts HR3.out (by omega)
              simp only [Value.slice.injEq, true_and] at hv3
              obtain ⟨rfl, rfl⟩ := hv3
              obtain ⟨x0, x1, x2', x3'⟩ := hc3 j hj
              have f0 := (hbel.cell (p := ⟨b3, o3 + j * 4, none⟩) (show b3 < _ by omega)).trans x0
              have f1 := (hbel.cell (p := ⟨b3, o3 + j * 4 + 1, none⟩) (show b3 < _ by omega)).trans x1
              have f2 := (hbel.cell (p := ⟨b3, o3 + j * 4 + 2, none⟩) (show b3 < _ by omega)).trans x2'
              have f3 := (hbel.cell (p := ⟨b3, o3 + j * 4 + 3, none⟩) (show b3 < _ by omega)).trans x3'
              rw [hA1] at e0 e1 e2 e3
              obtain ⟨bd1, bd2, bd3, bd4, bd5, bd6⟩ := HBD.out _ (List.getElem_mem hj)
              obtain ⟨z, hz⟩ : ∃ z, L2[j]'hj = z := ⟨_, rfl⟩
              rw [hz] at e0 e1 e2 e3 f0 f1 f2 f3 bd1 bd2 bd3 bd4 bd5 bd6
              have lb3 : b3 < wr.heap.size := by omega
              have hq := p7.below hbel (by omega)
              have m0 : wr.cell? ⟨w4.heap.size, 0, none⟩ = some (.int .i64 Q.a) := hq.cell 0
              have m1 : wr.cell? ⟨w4.heap.size, 1, none⟩ = some (.int .i64 Q.l) := hq.cell 1
              have m2 : wr.cell? ⟨w4.heap.size, 2, none⟩ = some (.int .i64 Q.c) := hq.cell 2
              unfold U.shift at e1 e2 e3
              simp only at e0 e1 e2 e3
              have hi1' : ¬ ((L1.length : Int) + (j : Int) < (L1.length : Int)) := by omega
              have hlt2 : (j : Int) < (L2.length : Int) := by omega
              clear x0 x1 x2' x3' hc3 hA1 hz hq
              by_cases hl1 : z.p.l = 1
              · rw [if_pos hl1] at e3
                have hl1' : (z.p.l == 1) = true := by rw [beq_iff_eq]; exact hl1
                have HL := Lib.hid hl1
                clear hl1
                go_wp2
                exact ⟨⟨L1.length + j + 1, by go_num, by omega, (hbel.alloc (by omega) _).alloc (by simp; omega) _⟩, by simp [intOf]; omega⟩
              · rw [if_neg hl1] at e3
                have hl1' : (z.p.l == 1) = false := by rw [beq_eq_false_iff_ne]; exact hl1
                clear hl1
                go_wp2
                exact ⟨⟨L1.length + j + 1, by go_num, by omega, (hbel.alloc (by omega) _).alloc (by simp; omega) _⟩, by simp [intOf]; omega⟩
          · have hlt' : ¬ ((i : Int) < (L1.length : Int) + (L2.length : Int)) := by omega
            go_wp2
            go_ret
            exact ⟨rfl, below_call y7 hbel⟩
      · have hss : s.size ≤ 4000 := by have := (U.run_right s.data.toList (by rw [HE1.out]; exact he1)).2; rwa [size_list] at this
        have hts : t.size ≤ 4000 := by have := (U.run_right t.data.toList (by rw [HE2.out]; exact he2)).2; rwa [size_list] at this
        have hsum : (4000 : Int) < (s.size : Int) + (t.size : Int) := by omega
        have hp1 : P1 = ⟨0, 0, 0⟩ := by rw [← HP1.out]; exact eE_zero _ (by rw [HE1.out]; exact he1)
        have hp2 : P2 = ⟨0, 0, 0⟩ := by rw [← HP2.out]; exact eE_zero _ (by rw [HE2.out]; exact he2)
        rw [he1, hp1] at cP cE
        rw [he2, hp2] at cQ
        unfold posV diagV at cE
        unfold diagV at cP cQ
        have HP := Lib.hid cP
        have HQ := Lib.hid cQ
        have HE := Lib.hid cE
        clear cP cQ cE
        go_enter Tryd.func6, Tryd.ntmps6
        go_wp2_with fail
        refine ck.mono ?_
        rintro e w1 ⟨rfl, hb1⟩
        have s1 := hb1.size
        go_wp2_with fail
        refine (HP.out _ (tabs_below w.heap.size HT.out hb1 h2) (by omega)).mono ?_
        rintro e w2 ⟨v2, rfl, hb2, own2⟩
        have y2 := below_call hb1 hb2
        have s2 := hb2.size
        obtain ⟨oa, ca, hv2⟩ := own_slice own2
        subst hv2
        have r2 := Row.own own2 (Nat.le_refl _)
        clear own2
        go_wp2_with fail
        have x2 : Below w.heap.size w (w2.alloc (.cells #[.int .i64 0, .int .i64 0, .int .i64 0, .int .i64 0] 28)) := y2.alloc y2.size _
        refine (HQ.out _ (tabs_below w.heap.size HT.out x2 h2) (by simp; omega)).mono ?_
        rintro e w3 ⟨v3, rfl, hb3, own3⟩
        have y3 := below_call x2 hb3
        have s3 := hb3.size
        simp only [World.size_alloc] at s3
        have hb3b : Below (w2.heap.size + 1) (w2.alloc (.cells #[.int .i64 0, .int .i64 0, .int .i64 0, .int .i64 0] 28)) w3 := by simpa using hb3
        obtain ⟨ob, cb, hv3⟩ := own_slice own3
        subst hv3
        have d1 : Blk w3 w2.heap.size #[.int .i64 0, .int .i64 0, .int .i64 0, .int .i64 0] 28 := (Blk.new w2 _ _ _ rfl).below hb3b (by omega)
        have r2b : Row w3 w2.heap.size 4 (.slice oa L1.length ca) L1.length (ptsCells L1) := r2.below (((Below.refl w2.heap.size w2).alloc (Nat.le_refl _) _).trans (hb3b.mono (by omega)))
        have r3 : Row w3 w3.heap.size 4 (.slice ob L2.length cb) L2.length (ptsCells L2) := Row.own own3 (Nat.le_refl _)
        clear own3
        go_wp2_with fail
        have x3 : Below w.heap.size w (w3.alloc (.cells #[.int .i64 0, .int .i64 0, .int .i64 0, .int .i64 0] 28)) := y3.alloc y3.size _
        refine (HE.out _ (tabs_below w.heap.size HT.out x3 h2) (by simp; omega)).mono ?_
        rintro e w4 ⟨rfl, hb4⟩
        have y4 := below_call x3 hb4
        have s4 := hb4.size
        simp only [World.size_alloc] at s4
        have hb4b : Below (w3.heap.size + 1) (w3.alloc (.cells #[.int .i64 0, .int .i64 0, .int .i64 0, .int .i64 0] 28)) w4 := by simpa using hb4
        have d1b : Blk w4 w2.heap.size #[.int .i64 0, .int .i64 0, .int .i64 0, .int .i64 0] 28 := (d1.alloc _).below hb4b (by omega)
        have d2b : Blk w4 w3.heap.size #[.int .i64 0, .int .i64 0, .int .i64 0, .int .i64 0] 28 := (Blk.new w3 _ _ _ rfl).below hb4b (by omega)
        have r2c : Row w4 w2.heap.size 4 (.slice oa L1.length ca) L1.length (ptsCells L1) := r2b.below (((Below.refl w2.heap.size w3).alloc (by omega) _).trans (hb4b.mono (by omega)))
        have r3b : Row w4 w3.heap.size 4 (.slice ob L2.length cb) L2.length (ptsCells L2) := r3.below (((Below.refl w3.heap.size w3).alloc (Nat.le_refl _) _).trans (hb4b.mono (by omega)))
        have l2 : w2.heap.size < w4.heap.size := by omega
        have l3 : w3.heap.size < w4.heap.size := by omega
        have g0 : w4.cell? ⟨w2.heap.size, 0, none⟩ = some (.int .i64 0) := d1b.cell 0
        have g1 : w4.cell? ⟨w2.heap.size, 1, none⟩ = some (.int .i64 0) := d1b.cell 1
        have g2 : w4.cell? ⟨w2.heap.size, 2, none⟩ = some (.int .i64 0) := d1b.cell 2
        have g3 : w4.cell? ⟨w2.heap.size, 3, none⟩ = some (.int .i64 0) := d1b.cell 3
        have k0 : w4.cell? ⟨w3.heap.size, 0, none⟩ = some (.int .i64 0) := d2b.cell 0
        have k1 : w4.cell? ⟨w3.heap.size, 1, none⟩ = some (.int .i64 0) := d2b.cell 1
        have k2 : w4.cell? ⟨w3.heap.size, 2, none⟩ = some (.int .i64 0) := d2b.cell 2
        have k3 : w4.cell? ⟨w3.heap.size, 3, none⟩ = some (.int .i64 0) := d2b.cell 3
        go_wp2
        go_ret
        exact ⟨rfl, (y4.alloc (by omega) _).alloc (by simp; omega) _⟩
    · have he2' : (E2 == 0) = false := by rw [beq_eq_false_iff_ne]; exact he2
      have hp1 : P1 = ⟨0, 0, 0⟩ := by rw [← HP1.out]; exact eE_zero _ (by rw [HE1.out]; exact he1)
      rw [he1, hp1] at cP cE
      clear he2
      unfold posV diagV at cE
      unfold diagV at cP cQ
      have HP := Lib.hid cP
      have HQ := Lib.hid cQ
      have HE := Lib.hid cE
      clear cP cQ cE
      go_enter Tryd.func6, Tryd.ntmps6
      go_wp2_with fail
      refine ck.mono ?_
      rintro e w1 ⟨rfl, hb1⟩
      have s1 := hb1.size
      go_wp2_with fail
      refine (HP.out _ (tabs_below w.heap.size HT.out hb1 h2) (by omega)).mono ?_
      rintro e w2 ⟨v2, rfl, hb2, own2⟩
      have y2 := below_call hb1 hb2
      have s2 := hb2.size
      obtain ⟨oa, ca, hv2⟩ := own_slice own2
      subst hv2
      have r2 := Row.own own2 (Nat.le_refl _)
      clear own2
      go_wp2_with fail
      have x2 : Below w.heap.size w (w2.alloc (.cells #[.int .i64 0, .int .i64 0, .int .i64 0, .int .i64 0] 28)) := y2.alloc y2.size _
      refine (HQ.out _ (tabs_below w.heap.size HT.out x2 h2) (by simp; omega)).mono ?_
      rintro e w3 ⟨v3, rfl, hb3, own3⟩
      have y3 := below_call x2 hb3
      have s3 := hb3.size
      simp only [World.size_alloc] at s3
      have hb3b : Below (w2.heap.size + 1) (w2.alloc (.cells #[.int .i64 0, .int .i64 0, .int .i64 0, .int .i64 0] 28)) w3 := by simpa using hb3
      obtain ⟨ob, cb, hv3⟩ := own_slice own3
      subst hv3
      have d1 : Blk w3 w2.heap.size #[.int .i64 0, .int .i64 0, .int .i64 0, .int .i64 0] 28 := (Blk.new w2 _ _ _ rfl).below hb3b (by omega)
      have r2b : Row w3 w2.heap.size 4 (.slice oa L1.length ca) L1.length (ptsCells L1) := r2.below (((Below.refl w2.heap.size w2).alloc (Nat.le_refl _) _).trans (hb3b.mono (by omega)))
      have r3 : Row w3 w3.heap.size 4 (.slice ob L2.length cb) L2.length (ptsCells L2) := Row.own own3 (Nat.le_refl _)
      clear own3
      go_wp2_with fail
      have x3 : Below w.heap.size w (w3.alloc (.cells #[.int .i64 E2, .int .i64 P2.a, .int .i64 P2.l, .int .i64 P2.c] 28)) := y3.alloc y3.size _
      refine (HE.out _ (tabs_below w.heap.size HT.out x3 h2) (by simp; omega)).mono ?_
      rintro e w4 ⟨rfl, hb4⟩
      have y4 := below_call x3 hb4
      have s4 := hb4.size
      simp only [World.size_alloc] at s4
      have hb4b : Below (w3.heap.size + 1) (w3.alloc (.cells #[.int .i64 E2, .int .i64 P2.a, .int .i64 P2.l, .int .i64 P2.c] 28)) w4 := by simpa using hb4
      have d1b : Blk w4 w2.heap.size #[.int .i64 0, .int .i64 0, .int .i64 0, .int .i64 0] 28 := (d1.alloc _).below hb4b (by omega)
      have d2b : Blk w4 w3.heap.size #[.int .i64 E2, .int .i64 P2.a, .int .i64 P2.l, .int .i64 P2.c] 28 := (Blk.new w3 _ _ _ rfl).below hb4b (by omega)
      have r2c : Row w4 w2.heap.size 4 (.slice oa L1.length ca) L1.length (ptsCells L1) := r2b.below (((Below.refl w2.heap.size w3).alloc (by omega) _).trans (hb4b.mono (by omega)))
      have r3b : Row w4 w3.heap.size 4 (.slice ob L2.length cb) L2.length (ptsCells L2) := r3.below (((Below.refl w3.heap.size w3).alloc (Nat.le_refl _) _).trans (hb4b.mono (by omega)))
      have l2 : w2.heap.size < w4.heap.size := by omega
      have l3 : w3.heap.size < w4.heap.size := by omega
      have g0 : w4.cell? ⟨w2.heap.size, 0, none⟩ = some (.int .i64 0) := d1b.cell 0
      have g1 : w4.cell? ⟨w2.heap.size, 1, none⟩ = some (.int .i64 0) := d1b.cell 1
      have g2 : w4.cell? ⟨w2.heap.size, 2, none⟩ = some (.int .i64 0) := d1b.cell 2
      have g3 : w4.cell? ⟨w2.heap.size, 3, none⟩ = some (.int .i64 0) := d1b.cell 3
      have k0 : w4.cell? ⟨w3.heap.size, 0, none⟩ = some (.int .i64 E2) := d2b.cell 0
      have k1 : w4.cell? ⟨w3.heap.size, 1, none⟩ = some (.int .i64 P2.a) := d2b.cell 1
      have k2 : w4.cell? ⟨w3.heap.size, 2, none⟩ = some (.int .i64 P2.l) := d2b.cell 2
      have k3 : w4.cell? ⟨w3.heap.size, 3, none⟩ = some (.int .i64 P2.c) := d2b.cell 3
      go_wp2
      go_ret
      exact ⟨rfl, (y4.alloc (by omega) _).alloc (by simp; omega) _⟩
  · have he1' : (E1 == 0) = false := by rw [beq_eq_false_iff_ne]; exact he1
    clear he1
    unfold posV diagV at cE
    unfold diagV at cP cQ
    have HP := Lib.hid cP
    have HQ := Lib.hid cQ
    have HE := Lib.hid cE
    clear cP cQ cE
    go_enter Tryd.func6, Tryd.ntmps6
    go_wp2_with fail
    refine ck.mono ?_
    rintro e w1 ⟨rfl, hb1⟩
    have s1 := hb1.size
    go_wp2_with fail
    refine (HP.out _ (tabs_below w.heap.size HT.out hb1 h2) (by omega)).mono ?_
    rintro e w2 ⟨v2, rfl, hb2, own2⟩
    have y2 := below_call hb1 hb2
    have s2 := hb2.size
    obtain ⟨oa, ca, hv2⟩ := own_slice own2
    subst hv2
    have r2 := Row.own own2 (Nat.le_refl _)
    clear own2
    go_wp2_with fail
    have x2 : Below w.heap.size w (w2.alloc (.cells #[.int .i64 E1, .int .i64 P1.a, .int .i64 P1.l, .int .i64 P1.c] 28)) := y2.alloc y2.size _
    refine (HQ.out _ (tabs_below w.heap.size HT.out x2 h2) (by simp; omega)).mono ?_
    rintro e w3 ⟨v3, rfl, hb3, own3⟩
    have y3 := below_call x2 hb3
    have s3 := hb3.size
    simp only [World.size_alloc] at s3
    have hb3b : Below (w2.heap.size + 1) (w2.alloc (.cells #[.int .i64 E1, .int .i64 P1.a, .int .i64 P1.l, .int .i64 P1.c] 28)) w3 := by simpa using hb3
    obtain ⟨ob, cb, hv3⟩ := own_slice own3
    subst hv3
    have d1 : Blk w3 w2.heap.size #[.int .i64 E1, .int .i64 P1.a, .int .i64 P1.l, .int .i64 P1.c] 28 := (Blk.new w2 _ _ _ rfl).below hb3b (by omega)
    have r2b : Row w3 w2.heap.size 4 (.slice oa L1.length ca) L1.length (ptsCells L1) := r2.below (((Below.refl w2.heap.size w2).alloc (Nat.le_refl _) _).trans (hb3b.mono (by omega)))
    have r3 : Row w3 w3.heap.size 4 (.slice ob L2.length cb) L2.length (ptsCells L2) := Row.own own3 (Nat.le_refl _)
    clear own3
    go_wp2_with fail
    have x3 : Below w.heap.size w (w3.alloc (.cells #[.int .i64 E2, .int .i64 P2.a, .int .i64 P2.l, .int .i64 P2.c] 28)) := y3.alloc y3.size _
    refine (HE.out _ (tabs_below w.heap.size HT.out x3 h2) (by simp; omega)).mono ?_
    rintro e w4 ⟨rfl, hb4⟩
    have y4 := below_call x3 hb4
    have s4 := hb4.size
    simp only [World.size_alloc] at s4
    have hb4b : Below (w3.heap.size + 1) (w3.alloc (.cells #[.int .i64 E2, .int .i64 P2.a, .int .i64 P2.l, .int .i64 P2.c] 28)) w4 := by simpa using hb4
    have d1b : Blk w4 w2.heap.size #[.int .i64 E1, .int .i64 P1.a, .int .i64 P1.l, .int .i64 P1.c] 28 := (d1.alloc _).below hb4b (by omega)
    have d2b : Blk w4 w3.heap.size #[.int .i64 E2, .int .i64 P2.a, .int .i64 P2.l, .int .i64 P2.c] 28 := (Blk.new w3 _ _ _ rfl).below hb4b (by omega)
    have r2c : Row w4 w2.heap.size 4 (.slice oa L1.length ca) L1.length (ptsCells L1) := r2b.below (((Below.refl w2.heap.size w3).alloc (by omega) _).trans (hb4b.mono (by omega)))
    have r3b : Row w4 w3.heap.size 4 (.slice ob L2.length cb) L2.length (ptsCells L2) := r3.below (((Below.refl w3.heap.size w3).alloc (Nat.le_refl _) _).trans (hb4b.mono (by omega)))
    have l2 : w2.heap.size < w4.heap.size := by omega
    have l3 : w3.heap.size < w4.heap.size := by omega
    have g0 : w4.cell? ⟨w2.heap.size, 0, none⟩ = some (.int .i64 E1) := d1b.cell 0
    have g1 : w4.cell? ⟨w2.heap.size, 1, none⟩ = some (.int .i64 P1.a) := d1b.cell 1
    have g2 : w4.cell? ⟨w2.heap.size, 2, none⟩ = some (.int .i64 P1.l) := d1b.cell 2
    have g3 : w4.cell? ⟨w2.heap.size, 3, none⟩ = some (.int .i64 P1.c) := d1b.cell 3
    have k0 : w4.cell? ⟨w3.heap.size, 0, none⟩ = some (.int .i64 E2) := d2b.cell 0
    have k1 : w4.cell? ⟨w3.heap.size, 1, none⟩ = some (.int .i64 P2.a) := d2b.cell 1
    have k2 : w4.cell? ⟨w3.heap.size, 2, none⟩ = some (.int .i64 P2.l) := d2b.cell 2
    have k3 : w4.cell? ⟨w3.heap.size, 3, none⟩ = some (.int .i64 P2.c) := d2b.cell 3
    go_wp2
    go_ret
    exact ⟨rfl, (y4.alloc (by omega) _).alloc (by simp; omega) _⟩
end Go.Proofs.YthhphmhddeoagaaDoor
