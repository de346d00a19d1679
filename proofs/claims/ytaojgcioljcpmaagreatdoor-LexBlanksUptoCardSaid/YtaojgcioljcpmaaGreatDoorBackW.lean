/- The walk of LexBack. -/
import Derived.Test.YtaojgcioljcpmaaGreatDoorBack
import Derived.Test.YtaojgcioljcpmaaGreatDoorTail
namespace Go.Proofs.YtaojgcioljcpmaaGreatDoor
open Go.RowKit

theorem tokens_own (G : Nat) (s : ByteArray) (ts : List T.Tok) (E : Int) (qa ql qc : Int) (h : T.tokens s.data.toList = (ts, E, ⟨qa, ql, qc⟩)) (hl : s.size ≤ maxLen) (W : World) (hT : Tabs G W) :
    Calls Tryz.prog 12 #[.string s] W fun e w' => ∃ a c, e = .returned (.tuple #[.slice a ts.length c, .agg #[.int .i64 E, .int .i64 qa, .int .i64 ql, .int .i64 qc]]) ∧ Below W.heap.size W w' ∧ w'.ownsRow W.heap.size 42 6 (.slice a ts.length c) ts.length (toksCells ts) := by
  have := tokens_any s W hl (Tabs.of hT.now)
  rw [h] at this
  refine this.mono ?_
  rintro _ w' ⟨v, rfl, hb, hown⟩
  obtain ⟨a, c, rfl⟩ := own_slice hown
  exact ⟨a, c, rfl, hb, hown⟩
theorem write_cases (l : List T.Tok) (J : List UInt8) (E : Int) (h : T.write l = (J, E)) :
    (E = 0 ∧ l.all T.may = true ∧ T.joined l = J ∧ J.length ≤ 4000) ∨ (E = 2 ∧ l.all T.may = false) ∨ E = 3 := by
  unfold T.write at h
  cases hb : l.all T.may with
  | false =>
    rw [hb] at h
    simp only [Bool.false_eq_true, if_false] at h
    injection h with h1 h2
    exact .inr (.inl ⟨h2.symm, rfl⟩)
  | true =>
    rw [hb] at h
    simp only [if_true] at h
    obtain ⟨K, hK⟩ : ∃ K, T.joined l = K := ⟨_, rfl⟩
    rw [hK] at h ⊢
    by_cases h4 : 4000 < K.length
    · rw [if_pos h4] at h
      injection h with h1 h2
      exact .inr (.inr h2.symm)
    · rw [if_neg h4] at h
      injection h with h1 h2
      subst h1
      exact .inl ⟨h2.symm, rfl, rfl, by omega⟩
set_option maxRecDepth 50000 in
set_option maxHeartbeats 4000000 in
theorem LexBack_walk (G : Nat) (l : List T.Tok) (a : Option Addr) (m c : Nat) (s : ByteArray) (w : World) (hs : s.size ≤ maxLen) (hT : Tabs G w) (hm : l.length = m) (hmm : m ≤ 100000000) (hok : ∀ t ∈ l, TokOk t)
    (hrow : Row w w.heap.size 6 (.slice a m c) m (toksCells l)) :
    Calls Tryz.prog 4 #[.slice a m c, .string s] w fun e w' => e = .returned (.bool true) ∧ Below w.heap.size w w' := by
  have HK := Lib.hid (known_any G w hT)
  have HTAB := Lib.hid (fun (W : World) (h : Below w.heap.size w W) => hT.below (h.mono hT.le))
  have hzz := tokens_zero s.data.toList
  have hto := tok_ok s.data.toList
  have hmy := T.may_tokens s.data.toList
  have hbad := tokens_bad s.data.toList
  obtain ⟨⟨ts, E, ⟨qa, ql, qc⟩⟩, hR⟩ : ∃ R, T.tokens s.data.toList = R := ⟨_, rfl⟩
  rw [hR] at hzz hto hmy hbad
  simp only at hzz hto hmy hbad
  have HZ := Lib.hid hzz
  have HTO := Lib.hid hto
  have HMY := Lib.hid (show ts.all T.may = true by simpa using hmy)
  have HBAD := Lib.hid hbad
  have HR := Lib.hid hR
  have HM := Lib.hid hm
  have HOK := Lib.hid hok
  have HROW := Lib.hid hrow
  clear hT hzz hto hmy hbad hR hm hok hrow
  go_enter Tryz.func4, Tryz.ntmps4
  go_wp2_with fail
  refine HK.out.mono ?_
  rintro _ w0 ⟨rfl, hb0⟩
  have R0 := Lib.hid (HROW.out.step hb0)
  have HB0 := Lib.hid hb0
  clear hb0
  go_wp2_with fail
  refine (great_any l a m c w0 HM.out hmm HOK.out R0.out).mono ?_
  rintro _ w1 ⟨hg, hb1⟩
  have R1 := Lib.hid (R0.out.step hb1)
  have HB1 := Lib.hid (below_call HB0.out hb1)
  clear hb1
  rcases hg with ⟨rfl, hm2⟩ | rfl
  · by_cases h8 : 8000 < s.size
    · have h8' : decide ((8000 : Int) < (s.size : Int)) = true := decide_eq_true (by omega)
      go_wp2
      go_ret
      refine ⟨rfl, ?_⟩
      (repeat (with_reducible first | exact HB1.out | refine Below.setCell ?_ ?_ _ | refine Below.alloc ?_ ?_ _ | refine Below.drewN ?_ _ | refine Below.drew ?_)) <;> first | omega | (simp; omega) | (simp; done)
    · have h8' : decide ((8000 : Int) < (s.size : Int)) = false := decide_eq_false (by omega)
      obtain ⟨⟨J, E1⟩, hJ⟩ : ∃ R, T.write l = R := ⟨_, rfl⟩
      have hc := write_cases l J E1 hJ
      have HJ := Lib.hid hJ
      clear hJ
      by_cases hE1 : E1 = 0
      · obtain ⟨ms, hms, hsame⟩ : ∃ ms, T.tokens J = (ms, 0, U.zero) ∧ T.sameL ms l = true := by
          rcases hc with ⟨_, h1, h2, h3⟩ | ⟨h1, _⟩ | h1
          · obtain ⟨ms, h4, h5⟩ := T.back l h1 (by rw [h2]; exact h3)
            exact ⟨ms, by rw [← h2]; exact h4, h5⟩
          · omega
          · omega
        have hjl : J.length ≤ 4000 := by
          rcases hc with ⟨_, h1, h2, h3⟩ | ⟨h1, _⟩ | h1
          · exact h3
          · omega
          · omega
        subst hE1
        have hml := (tok_fits _ _ _ hms).1
        have HMS := Lib.hid hms
        have HSAME := Lib.hid hsame
        clear hms hsame hc
        go_wp2_with fail
        refine (write_any G l a m c w1 (HTAB.out _ HB1.out) HM.out (by omega) HOK.out R1.out).mono ?_
        rw [HJ.out]
        rintro _ w2 ⟨rfl, hb2⟩
        have R2 := Lib.hid (R1.out.step hb2)
        have HB2 := Lib.hid (below_call HB1.out hb2)
        clear hb2
        go_wp2_with fail
        refine (tokens_own G ⟨J.toArray⟩ ms 0 0 0 0 HMS.out (by show J.toArray.size ≤ _; rw [List.size_toArray]; unfold maxLen; omega) w2 (HTAB.out _ HB2.out)).mono ?_
        rintro _ w3 ⟨a3, c3, rfl, hb3, hown3⟩
        have R3 := Lib.hid (Row.own hown3 (Nat.le_refl _))
        have L3 := Lib.hid (R2.out.step hb3)
        have HB3 := Lib.hid (below_call HB2.out hb3)
        have hsz3 := HB3.out.size
        clear hb3 hown3
        go_wp2_with fail
        refine (same_below ms l a3 a ms.length m c3 c false _ rfl HM.out (by omega) hm2 ((R3.out.below (by (repeat (with_reducible first | exact Below.refl _ _ | refine Below.setCell ?_ ?_ _ | refine Below.alloc ?_ ?_ _ | refine Below.drewN ?_ _ | refine Below.drew ?_)) <;> first | omega | (simp; omega) | (simp; done))).mono (by simp)) ((L3.out.below (by (repeat (with_reducible first | exact Below.refl _ _ | refine Below.setCell ?_ ?_ _ | refine Below.alloc ?_ ?_ _ | refine Below.drewN ?_ _ | refine Below.drew ?_)) <;> first | omega | (simp; omega) | (simp; done))).mono (by simp))).mono ?_
        rintro _ w5 ⟨rfl, hb5⟩
        have HB5 := Lib.hid (below_call (by (repeat (with_reducible first | exact HB3.out | refine Below.setCell ?_ ?_ _ | refine Below.alloc ?_ ?_ _ | refine Below.drewN ?_ _ | refine Below.drew ?_)) <;> first | omega | (simp; omega) | (simp; done) : Below w.heap.size w _) hb5)
        clear hb5
        rw [same_L, HSAME.out]
        go_wp2_with fail
        refine (tokens_own G s ts E qa ql qc HR.out hs w5 (HTAB.out _ HB5.out)).mono ?_
        rintro _ w6 ⟨a6, c6, rfl, hb6, hown6⟩
        have hr6 := Row.own hown6 (Nat.le_refl _)
        have HB6 := Lib.hid (below_call HB5.out hb6)
        have hsz6 := HB6.out.size
        have HR6 := Lib.hid hr6
        clear hb6 hown6 hr6
        by_cases hE : E = 0
        · subst hE
          obtain ⟨hzE, _, hz⟩ := HZ.out rfl
          simp only [U.zero, U.Pos.mk.injEq] at hz
          obtain ⟨rfl, rfl, rfl⟩ := hz
          have hfl := (tok_fits _ _ _ HR.out).1
          obtain ⟨⟨J2, E2⟩, hJ2⟩ : ∃ R, T.write ts = R := ⟨_, rfl⟩
          have hc2 := write_cases ts J2 E2 hJ2
          have HJ2 := Lib.hid hJ2
          clear hJ2 hzE
          rcases hc2 with ⟨rfl, hal2, hj2, hl2⟩ | ⟨rfl, hal2⟩ | rfl
          · obtain ⟨ns, hns, hsame⟩ := T.back ts hal2 (by rw [hj2]; exact hl2)
            rw [hj2] at hns
            have HNS := Lib.hid hns
            have HSM := Lib.hid hsame
            clear hns hsame hal2 hj2
            go_wp2_with fail
            refine (write_any G ts a6 ts.length c6 _ (HTAB.out _ (by (repeat (with_reducible first | exact HB6.out | refine Below.setCell ?_ ?_ _ | refine Below.alloc ?_ ?_ _ | refine Below.drewN ?_ _ | refine Below.drew ?_)) <;> first | omega | (simp; omega) | (simp; done))) rfl (by omega) HTO.out ((HR6.out.below (by (repeat (with_reducible first | exact Below.refl _ _ | refine Below.setCell ?_ ?_ _ | refine Below.alloc ?_ ?_ _ | refine Below.drewN ?_ _ | refine Below.drew ?_)) <;> first | omega | (simp; omega) | (simp; done))).mono (by simp))).mono ?_
            rw [HJ2.out]
            rintro _ w8 ⟨rfl, hb8⟩
            have HB8 := Lib.hid (below_call (by (repeat (with_reducible first | exact HB6.out | refine Below.setCell ?_ ?_ _ | refine Below.alloc ?_ ?_ _ | refine Below.drewN ?_ _ | refine Below.drew ?_)) <;> first | omega | (simp; omega) | (simp; done) : Below w.heap.size w _) hb8)
            have HX8 := Lib.hid ((by (repeat (with_reducible first | exact Below.refl _ _ | refine Below.setCell ?_ ?_ _ | refine Below.alloc ?_ ?_ _ | refine Below.drewN ?_ _ | refine Below.drew ?_)) <;> first | omega | (simp; omega) | (simp; done) : Below w6.heap.size w6 _).trans (hb8.mono (by simp)))
            have HD8 := Lib.hid ((Blk.new w6 w6.heap.size #[.int .i64 0, .int .i64 0, .int .i64 0, .int .i64 0] 31 rfl).below hb8 (by simp))
            have hs8 : w6.heap.size + 1 ≤ w8.heap.size := by
              have := hb8.size
              simp at this
              omega
            clear hb8
            go_wp2_with fail
            refine (tokens_own G ⟨J2.toArray⟩ ns 0 0 0 0 HNS.out (by show J2.toArray.size ≤ _; rw [List.size_toArray]; unfold maxLen; omega) w8 (HTAB.out _ HB8.out)).mono ?_
            rintro _ w9 ⟨a9, c9, rfl, hb9, hown9⟩
            have hD9 := HD8.out.below hb9 (by omega)
            have hD0 : w9.cell? ⟨w6.heap.size, 0, none⟩ = some (.int .i64 0) := hD9.cell 0
            have hD1 : w9.cell? ⟨w6.heap.size, 1, none⟩ = some (.int .i64 0) := hD9.cell 1
            have hD2 : w9.cell? ⟨w6.heap.size, 2, none⟩ = some (.int .i64 0) := hD9.cell 2
            have hD3 : w9.cell? ⟨w6.heap.size, 3, none⟩ = some (.int .i64 0) := hD9.cell 3
            have hZ0 := hD9.free 0
            have hZ1 := hD9.free 1
            have hZ2 := hD9.free 2
            have hZ3 := hD9.free 3
            have hs9 := hb9.size
            have HX9 := Lib.hid (HX8.out.trans (hb9.mono (by omega)))
            have HB9 := Lib.hid (below_call HB8.out hb9)
            have HOW := Lib.hid hown9
            clear hb9 hown9 hD9
            go_wp2_with fail
            obtain ⟨W5, hW5⟩ : ∃ W, (((w9.setCell ⟨w6.heap.size, 0, none⟩ (.int .i64 0)).setCell ⟨w6.heap.size, 1, none⟩ (.int .i64 0)).setCell ⟨w6.heap.size, 2, none⟩ (.int .i64 0)).setCell ⟨w6.heap.size, 3, none⟩ (.int .i64 0) = W := ⟨_, rfl⟩
            have hb5' : Below w6.heap.size w6 W5 := by rw [← hW5]; (repeat (with_reducible first | exact HX9.out | refine Below.setCell ?_ ?_ _ | refine Below.alloc ?_ ?_ _ | refine Below.drewN ?_ _ | refine Below.drew ?_)) <;> first | omega | (simp; omega) | (simp; done)
            have hs5 : W5.heap.size = w9.heap.size := by rw [← hW5]; simp
            have ho5 := own_keep (w' := W5) HOW.out (fun k hk => by
              have hlt := (HOW.out.lt k hk).1
              rw [← hW5, heap_setCell_other _ _ _ _ (by show k ≠ w6.heap.size; omega), heap_setCell_other _ _ _ _ (by show k ≠ w6.heap.size; omega), heap_setCell_other _ _ _ _ (by show k ≠ w6.heap.size; omega), heap_setCell_other _ _ _ _ (by show k ≠ w6.heap.size; omega)])
            have r1 := Row.own ho5 (Nat.le_refl _)
            have r2 := (HR6.out.below hb5').mono (show w6.heap.size ≤ W5.heap.size by omega)
            have hnl := (tok_fits _ _ _ HNS.out).1
            rw [hW5]
            refine (same_below ns ts a9 a6 ns.length ts.length c9 c6 false W5 rfl rfl (by omega) (by omega) r1 r2).mono ?_
            rintro _ w10 ⟨rfl, hb10⟩
            rw [same_L, HSM.out]
            have HB10 := Lib.hid ((HB6.out.trans (hb5'.mono hsz6)).trans (hb10.mono (by omega)))
            clear hb10 r1 r2 ho5 hb5' hW5 hs5 hD0 hD1 hD2 hD3 hZ0 hZ1 hZ2 hZ3
            go_wp2
            go_ret
            refine ⟨rfl, ?_⟩
            (repeat (with_reducible first | exact HB10.out | refine Below.setCell ?_ ?_ _ | refine Below.alloc ?_ ?_ _ | refine Below.drewN ?_ _ | refine Below.drew ?_)) <;> first | omega | (simp; omega) | (simp; done)
          · exact absurd hal2 (by rw [HMY.out]; decide)
          · go_wp2_with fail
            refine (write_any G ts a6 ts.length c6 _ (HTAB.out _ (by (repeat (with_reducible first | exact HB6.out | refine Below.setCell ?_ ?_ _ | refine Below.alloc ?_ ?_ _ | refine Below.drewN ?_ _ | refine Below.drew ?_)) <;> first | omega | (simp; omega) | (simp; done))) rfl (by omega) HTO.out ((HR6.out.below (by (repeat (with_reducible first | exact Below.refl _ _ | refine Below.setCell ?_ ?_ _ | refine Below.alloc ?_ ?_ _ | refine Below.drewN ?_ _ | refine Below.drew ?_)) <;> first | omega | (simp; omega) | (simp; done))).mono (by simp))).mono ?_
            rw [HJ2.out]
            rintro _ w8 ⟨rfl, hb8⟩
            have HB8 : _ := Lib.hid (below_call (by (repeat (with_reducible first | exact HB6.out | refine Below.setCell ?_ ?_ _ | refine Below.alloc ?_ ?_ _ | refine Below.drewN ?_ _ | refine Below.drew ?_)) <;> first | omega | (simp; omega) | (simp; done) : Below w.heap.size w _) hb8)
            clear hb8
            go_wp2
            go_ret
            refine ⟨rfl, ?_⟩
            (repeat (with_reducible first | exact HB8.out | refine Below.setCell ?_ ?_ _ | refine Below.alloc ?_ ?_ _ | refine Below.drewN ?_ _ | refine Below.drew ?_)) <;> first | omega | (simp; omega) | (simp; done)
        · have hts := HBAD.out hE
          subst hts
          have hEd : (E != 0) = true := by rw [bne_iff_ne]; exact hE
          have hEd2 : (E == 0) = false := by rw [beq_eq_false_iff_ne]; exact hE
          go_wp2
          go_ret
          refine ⟨rfl, ?_⟩
          (repeat (with_reducible first | exact HB6.out | refine Below.setCell ?_ ?_ _ | refine Below.alloc ?_ ?_ _ | refine Below.drewN ?_ _ | refine Below.drew ?_)) <;> first | omega | (simp; omega) | (simp; done)
      · have hEd : (E1 == 0) = false := by rw [beq_eq_false_iff_ne]; exact hE1
        clear hc
        go_wp2_with fail
        refine (write_any G l a m c w1 (HTAB.out _ HB1.out) HM.out (by omega) HOK.out R1.out).mono ?_
        rw [HJ.out]
        rintro _ w5 ⟨rfl, hb5⟩
        have HB5 := Lib.hid (below_call HB1.out hb5)
        clear hb5
        go_wp2_with fail
        refine (tokens_own G s ts E qa ql qc HR.out hs w5 (HTAB.out _ HB5.out)).mono ?_
        rintro _ w6 ⟨a6, c6, rfl, hb6, hown6⟩
        have hr6 := Row.own hown6 (Nat.le_refl _)
        have HB6 := Lib.hid (below_call HB5.out hb6)
        have hsz6 := HB6.out.size
        have HR6 := Lib.hid hr6
        clear hb6 hown6 hr6
        by_cases hE : E = 0
        · subst hE
          obtain ⟨hzE, _, hz⟩ := HZ.out rfl
          simp only [U.zero, U.Pos.mk.injEq] at hz
          obtain ⟨rfl, rfl, rfl⟩ := hz
          have hfl := (tok_fits _ _ _ HR.out).1
          obtain ⟨⟨J2, E2⟩, hJ2⟩ : ∃ R, T.write ts = R := ⟨_, rfl⟩
          have hc2 := write_cases ts J2 E2 hJ2
          have HJ2 := Lib.hid hJ2
          clear hJ2 hzE
          rcases hc2 with ⟨rfl, hal2, hj2, hl2⟩ | ⟨rfl, hal2⟩ | rfl
          · obtain ⟨ns, hns, hsame⟩ := T.back ts hal2 (by rw [hj2]; exact hl2)
            rw [hj2] at hns
            have HNS := Lib.hid hns
            have HSM := Lib.hid hsame
            clear hns hsame hal2 hj2
            go_wp2_with fail
            refine (write_any G ts a6 ts.length c6 _ (HTAB.out _ (by (repeat (with_reducible first | exact HB6.out | refine Below.setCell ?_ ?_ _ | refine Below.alloc ?_ ?_ _ | refine Below.drewN ?_ _ | refine Below.drew ?_)) <;> first | omega | (simp; omega) | (simp; done))) rfl (by omega) HTO.out ((HR6.out.below (by (repeat (with_reducible first | exact Below.refl _ _ | refine Below.setCell ?_ ?_ _ | refine Below.alloc ?_ ?_ _ | refine Below.drewN ?_ _ | refine Below.drew ?_)) <;> first | omega | (simp; omega) | (simp; done))).mono (by simp))).mono ?_
            rw [HJ2.out]
            rintro _ w8 ⟨rfl, hb8⟩
            have HB8 := Lib.hid (below_call (by (repeat (with_reducible first | exact HB6.out | refine Below.setCell ?_ ?_ _ | refine Below.alloc ?_ ?_ _ | refine Below.drewN ?_ _ | refine Below.drew ?_)) <;> first | omega | (simp; omega) | (simp; done) : Below w.heap.size w _) hb8)
            have HX8 := Lib.hid ((by (repeat (with_reducible first | exact Below.refl _ _ | refine Below.setCell ?_ ?_ _ | refine Below.alloc ?_ ?_ _ | refine Below.drewN ?_ _ | refine Below.drew ?_)) <;> first | omega | (simp; omega) | (simp; done) : Below w6.heap.size w6 _).trans (hb8.mono (by simp)))
            have HD8 := Lib.hid ((Blk.new w6 w6.heap.size #[.int .i64 0, .int .i64 0, .int .i64 0, .int .i64 0] 31 rfl).below hb8 (by simp))
            have hs8 : w6.heap.size + 1 ≤ w8.heap.size := by
              have := hb8.size
              simp at this
              omega
            clear hb8
            go_wp2_with fail
            refine (tokens_own G ⟨J2.toArray⟩ ns 0 0 0 0 HNS.out (by show J2.toArray.size ≤ _; rw [List.size_toArray]; unfold maxLen; omega) w8 (HTAB.out _ HB8.out)).mono ?_
            rintro _ w9 ⟨a9, c9, rfl, hb9, hown9⟩
            have hD9 := HD8.out.below hb9 (by omega)
            have hD0 : w9.cell? ⟨w6.heap.size, 0, none⟩ = some (.int .i64 0) := hD9.cell 0
            have hD1 : w9.cell? ⟨w6.heap.size, 1, none⟩ = some (.int .i64 0) := hD9.cell 1
            have hD2 : w9.cell? ⟨w6.heap.size, 2, none⟩ = some (.int .i64 0) := hD9.cell 2
            have hD3 : w9.cell? ⟨w6.heap.size, 3, none⟩ = some (.int .i64 0) := hD9.cell 3
            have hZ0 := hD9.free 0
            have hZ1 := hD9.free 1
            have hZ2 := hD9.free 2
            have hZ3 := hD9.free 3
            have hs9 := hb9.size
            have HX9 := Lib.hid (HX8.out.trans (hb9.mono (by omega)))
            have HB9 := Lib.hid (below_call HB8.out hb9)
            have HOW := Lib.hid hown9
            clear hb9 hown9 hD9
            go_wp2_with fail
            obtain ⟨W5, hW5⟩ : ∃ W, (((w9.setCell ⟨w6.heap.size, 0, none⟩ (.int .i64 0)).setCell ⟨w6.heap.size, 1, none⟩ (.int .i64 0)).setCell ⟨w6.heap.size, 2, none⟩ (.int .i64 0)).setCell ⟨w6.heap.size, 3, none⟩ (.int .i64 0) = W := ⟨_, rfl⟩
            have hb5' : Below w6.heap.size w6 W5 := by rw [← hW5]; (repeat (with_reducible first | exact HX9.out | refine Below.setCell ?_ ?_ _ | refine Below.alloc ?_ ?_ _ | refine Below.drewN ?_ _ | refine Below.drew ?_)) <;> first | omega | (simp; omega) | (simp; done)
            have hs5 : W5.heap.size = w9.heap.size := by rw [← hW5]; simp
            have ho5 := own_keep (w' := W5) HOW.out (fun k hk => by
              have hlt := (HOW.out.lt k hk).1
              rw [← hW5, heap_setCell_other _ _ _ _ (by show k ≠ w6.heap.size; omega), heap_setCell_other _ _ _ _ (by show k ≠ w6.heap.size; omega), heap_setCell_other _ _ _ _ (by show k ≠ w6.heap.size; omega), heap_setCell_other _ _ _ _ (by show k ≠ w6.heap.size; omega)])
            have r1 := Row.own ho5 (Nat.le_refl _)
            have r2 := (HR6.out.below hb5').mono (show w6.heap.size ≤ W5.heap.size by omega)
            have hnl := (tok_fits _ _ _ HNS.out).1
            rw [hW5]
            refine (same_below ns ts a9 a6 ns.length ts.length c9 c6 false W5 rfl rfl (by omega) (by omega) r1 r2).mono ?_
            rintro _ w10 ⟨rfl, hb10⟩
            rw [same_L, HSM.out]
            have HB10 := Lib.hid ((HB6.out.trans (hb5'.mono hsz6)).trans (hb10.mono (by omega)))
            clear hb10 r1 r2 ho5 hb5' hW5 hs5 hD0 hD1 hD2 hD3 hZ0 hZ1 hZ2 hZ3
            go_wp2
            go_ret
            refine ⟨rfl, ?_⟩
            (repeat (with_reducible first | exact HB10.out | refine Below.setCell ?_ ?_ _ | refine Below.alloc ?_ ?_ _ | refine Below.drewN ?_ _ | refine Below.drew ?_)) <;> first | omega | (simp; omega) | (simp; done)
          · exact absurd hal2 (by rw [HMY.out]; decide)
          · go_wp2_with fail
            refine (write_any G ts a6 ts.length c6 _ (HTAB.out _ (by (repeat (with_reducible first | exact HB6.out | refine Below.setCell ?_ ?_ _ | refine Below.alloc ?_ ?_ _ | refine Below.drewN ?_ _ | refine Below.drew ?_)) <;> first | omega | (simp; omega) | (simp; done))) rfl (by omega) HTO.out ((HR6.out.below (by (repeat (with_reducible first | exact Below.refl _ _ | refine Below.setCell ?_ ?_ _ | refine Below.alloc ?_ ?_ _ | refine Below.drewN ?_ _ | refine Below.drew ?_)) <;> first | omega | (simp; omega) | (simp; done))).mono (by simp))).mono ?_
            rw [HJ2.out]
            rintro _ w8 ⟨rfl, hb8⟩
            have HB8 : _ := Lib.hid (below_call (by (repeat (with_reducible first | exact HB6.out | refine Below.setCell ?_ ?_ _ | refine Below.alloc ?_ ?_ _ | refine Below.drewN ?_ _ | refine Below.drew ?_)) <;> first | omega | (simp; omega) | (simp; done) : Below w.heap.size w _) hb8)
            clear hb8
            go_wp2
            go_ret
            refine ⟨rfl, ?_⟩
            (repeat (with_reducible first | exact HB8.out | refine Below.setCell ?_ ?_ _ | refine Below.alloc ?_ ?_ _ | refine Below.drewN ?_ _ | refine Below.drew ?_)) <;> first | omega | (simp; omega) | (simp; done)
        · have hts := HBAD.out hE
          subst hts
          have hEd : (E != 0) = true := by rw [bne_iff_ne]; exact hE
          have hEd2 : (E == 0) = false := by rw [beq_eq_false_iff_ne]; exact hE
          go_wp2
          go_ret
          refine ⟨rfl, ?_⟩
          (repeat (with_reducible first | exact HB6.out | refine Below.setCell ?_ ?_ _ | refine Below.alloc ?_ ?_ _ | refine Below.drewN ?_ _ | refine Below.drew ?_)) <;> first | omega | (simp; omega) | (simp; done)
  · go_wp2
    go_ret
    refine ⟨rfl, ?_⟩
    (repeat (with_reducible first | exact HB1.out | refine Below.setCell ?_ ?_ _ | refine Below.alloc ?_ ?_ _ | refine Below.drewN ?_ _ | refine Below.drew ?_)) <;> first | omega | (simp; omega) | (simp; done)
end Go.Proofs.YtaojgcioljcpmaaGreatDoor
