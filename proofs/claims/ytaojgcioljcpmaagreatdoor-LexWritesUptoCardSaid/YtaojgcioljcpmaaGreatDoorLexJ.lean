/- Contracts: the reader's token. -/
import Derived.Test.YtaojgcioljcpmaaGreatDoorLexH
import Derived.Test.YtaojgcioljcpmaaGreatDoorLexI
import Derived.Test.YtaojgcioljcpmaaGreatDoorLexP
namespace Go.Proofs.YtaojgcioljcpmaaGreatDoor
open Go.RowKit

def Post (b B i : Nat) (l : List U.Pt) (p : U.Pos) (w' : World) (r : T.Res) (k : Int) (x : ByteArray) (n : Int) : Prop :=
  match r with
  | .ok t m => k = t.k ∧ x = ⟨t.t.toArray⟩ ∧ n = t.n ∧ ReadAt w' b B l (i + m) 0 p
  | .bad E q => ∃ j, ReadAt w' b B l j E q
/-- what is the same in all that a taking method tells -/
theorem tells_split {b B i : Nat} {l : List U.Pt} {p : U.Pos} {w w' : World} {r : T.Res} {o : Ending} (h : Tells b B i l p w r o w') :
    ∃ k x n, o = .returned (.agg #[.int .u8 k, .string x, .int .i64 n, .int .i64 0, .int .i64 0, .int .i64 0]) ∧ Keep b w w' ∧
      Post b B i l p w' r k x n := by
  cases r with
  | ok t m =>
    obtain ⟨h1, h2, h3⟩ := h
    exact ⟨t.k, ⟨t.t.toArray⟩, t.n, h1, h3, rfl, rfl, rfl, h2⟩
  | bad E q =>
    obtain ⟨h1, h2, h3⟩ := h
    exact ⟨0, ⟨#[]⟩, 0, h1, h3, h2⟩

/-- what token tells -/
def TellsT (b B i : Nat) (l : List U.Pt) (p : U.Pos) (w : World) (r : T.Res) (o : Ending) (w' : World) : Prop :=
  match r with
  | .ok t n => o = .returned (tokV t) ∧ ReadAt w' b B l (i + n) 0 p ∧ Keep b w w'
  | .bad E q => (∃ k x n a c d, o = .returned (.agg #[.int .u8 k, .string x, .int .i64 n, .int .i64 a, .int .i64 c, .int .i64 d])) ∧ (∃ j, ReadAt w' b B l j E q) ∧ Keep b w w'


set_option maxHeartbeats 4000000 in
theorem token_any (G b B i : Nat) (l : List U.Pt) (p : U.Pos) (w : World) (hT : Tabs G w) (hG : G ≤ b) (h : ReadAt w b B l i 0 p) (hi : i < l.length) :
    Calls Tryz.prog 33 #[.pointer (some ⟨b, 0, none⟩)] w (TellsT b B i l p w (T.token (l.drop i))) := by
  have HR := Lib.hid h
  have hbw := h.lt
  have hsm := h.small
  have HI := Lib.hid hi
  obtain ⟨r, hr⟩ : ∃ r, (l[i]'hi).r = r := ⟨_, rfl⟩
  obtain ⟨P, hP⟩ : ∃ P, (l[i]'hi).p = P := ⟨_, rfl⟩
  have hpk : T.peek (l.drop i) 0 = r := by rw [peek_at l i 0 hi]; exact hr
  obtain ⟨W1, hW1⟩ : ∃ W1, (w.alloc (.cells #[.int .u8 0, .string ⟨#[]⟩, .int .i64 0, .int .i64 0, .int .i64 0, .int .i64 0] 42)) = W1 := ⟨_, rfl⟩
  have hb1 : Below w.heap.size w W1 := by rw [← hW1]; exact (Below.refl _ _).alloc (Nat.le_refl _) _
  have hz1 : W1.heap.size = w.heap.size + 1 := by rw [← hW1]; simp
  have s1 : Blk W1 w.heap.size #[.int .u8 0, .string ⟨#[]⟩, .int .i64 0, .int .i64 0, .int .i64 0, .int .i64 0] 42 := by rw [← hW1]; exact Blk.new _ _ _ _ rfl
  have hrd1 := h.keep hb1
  obtain ⟨a, c, ⟨d0, d1, _, _, _, _⟩, hf, hrow⟩ := hrd1.cells
  obtain ⟨g, off, rfl, hg, hc, _, e1, e2, e3⟩ := hrow.at i hi
  rw [hP] at e1 e2 e3
  obtain ⟨m, hm⟩ : ∃ m, l.length = m := ⟨_, rfl⟩
  rw [hm] at d0 hi hsm
  have hgw : g < W1.heap.size := by have := h.below; omega
  have e2' : W1.cell? ⟨g, off + i * 4 + 1 + 1, none⟩ = some (.int .i64 P.l) := e2
  have e3' : W1.cell? ⟨g, off + i * 4 + 1 + 2, none⟩ = some (.int .i64 P.c) := e3
  have hii : (i : Int) < (m : Int) := by omega
  have hi0 : (0 : Int) ≤ (i : Int) := by omega
  have hbw1 : b < W1.heap.size := by omega
  have hp0 : ∀ n, Calls Tryz.prog 51 #[.pointer (some ⟨b, 0, none⟩), .int .i64 0] (W1.drewN n) fun o w' => o = .returned (.int .i32 r) ∧ ∃ k, w' = (W1.drewN n).drewN k := fun n => by
    rw [← hpk]; exact peek_any b B i 0 l 0 p _ (hrd1.drewN n) (by omega)
  have HS1 := Lib.hid s1
  have HB1 := Lib.hid hb1
  have HRD1 := Lib.hid hrd1
  have HP0 := Lib.hid hp0
  have HPK := Lib.hid hpk
  have HRL := Lib.hid hr
  have HPP := Lib.hid hP
  have HM := Lib.hid hm
  have HT := Lib.hid hT
  have HW1 := Lib.hid hW1
  clear h hf hrow hr hpk hP hm hT hW1 hp0 hrd1 s1 hb1
  go_enter Tryz.func33, Tryz.ntmps33
  go_wp2_with fail
  rw [HW1.out]
  refine (HP0.out 0).mono ?_
  rintro _ _ ⟨rfl, m0, rfl⟩
  go_wp2_with fail
  refine (kind_any r _).mono ?_
  rintro _ _ ⟨rfl, rfl⟩
  obtain ⟨k, hk⟩ : ∃ k, T.kindR r = k := ⟨_, rfl⟩
  rw [hk]
  have HK := Lib.hid hk
  clear hk
  by_cases h3 : k = 3
  · subst h3
    have htok : T.token (l.drop i) = T.word (l.drop i) := by
      unfold T.token
      rw [HPK.out, HK.out]
      rfl
    have HTK := Lib.hid htok
    clear htok
    go_wp2
    go_region_held3 (fun w' => w'.cell? ⟨b, 0, none⟩ = some (.slice (some ⟨g, off, none⟩) m c) ∧ w'.cell? ⟨b, 1, none⟩ = some (.int .i64 i) ∧ w'.cell? ⟨g, off + i * 4 + 1, none⟩ = some (.int .i64 P.a) ∧ w'.cell? ⟨g, off + i * 4 + 1 + 1, none⟩ = some (.int .i64 P.l) ∧ w'.cell? ⟨g, off + i * 4 + 1 + 2, none⟩ = some (.int .i64 P.c)) (go_keep) (fail)
    go_wp2_with fail
    obtain ⟨V, hV⟩ : ∃ V, (W1.drewN (m0 + 1)).alloc (.cells #[.int .i64 P.a, .int .i64 P.l, .int .i64 P.c] 29) = V := ⟨_, rfl⟩
    rw [hV]
    have hbV : Below w.heap.size w V := by
      rw [← hV]
      (repeat (with_reducible first | exact HB1.out | refine Below.setCell ?_ ?_ _ | refine Below.alloc ?_ ?_ _ | refine Below.drewN ?_ _ | refine Below.drew ?_)) <;> first | omega | (simp; omega) | (simp; done)
    have hzV : V.heap.size = w.heap.size + 2 := by rw [← hV]; simp [hz1]
    have hsV : Blk V w.heap.size #[.int .u8 0, .string ⟨#[]⟩, .int .i64 0, .int .i64 0, .int .i64 0, .int .i64 0] 42 := by rw [← hV]; exact Blk.alloc (w := W1.drewN (m0 + 1)) HS1.out _
    have haV : Blk V (w.heap.size + 1) #[.int .i64 P.a, .int .i64 P.l, .int .i64 P.c] 29 := by rw [← hV]; exact Blk.new _ _ _ _ (by simp [hz1])
    have HRV := Lib.hid (HR.out.keep hbV)
    have HTV := Lib.hid (HT.out.below (hbV.mono HT.out.le))
    have HBV := Lib.hid hbV
    have HSV := Lib.hid hsV
    have HAV := Lib.hid haV
    clear hV hbV hsV haV
    obtain ⟨R, hR⟩ : ∃ R, T.word (l.drop i) = R := ⟨_, rfl⟩
    have hcall := word_any G b B i l p V HTV.out hG HRV.out HI.out
    rw [hR] at hcall
    have HRR := Lib.hid hR
    clear hR
    refine hcall.mono ?_
    clear hcall
    rintro o w5 htell
    obtain ⟨tk, tx, tn, rfl, hk5, hpost⟩ := tells_split htell
    clear htell
    have hks := HSV.out.keep hk5 (by omega)
    have g0 := hks.cell 0; have k0 := hks.free 0
    have g1 := hks.cell 1; have k1 := hks.free 1
    have g2 := hks.cell 2; have k2 := hks.free 2
    have g3 := hks.cell 3; have k3 := hks.free 3
    have g4 := hks.cell 4; have k4 := hks.free 4
    have g5 := hks.cell 5; have k5 := hks.free 5
    have hka := HAV.out.keep hk5 (by omega)
    have q0 := hka.cell 0
    have q1 := hka.cell 1
    have q2 := hka.cell 2
    simp only [List.getElem?_toArray, List.getElem?_cons_zero, List.getElem?_cons_succ] at g0 g1 g2 g3 g4 g5 q0 q1 q2
    have hs5 := hk5.size
    rw [hzV] at hs5
    have hw5 : w.heap.size < w5.heap.size := by omega
    have hw5' : w.heap.size + 1 < w5.heap.size := by omega
    have HPOST := Lib.hid hpost
    have HK5 := Lib.hid ((Keep.of_below HBV.out).trans hk5)
    clear hks hka hpost hk5
    go_wp2
    refine bodyPost_ret (v := .agg #[.int .u8 tk, .string tx, .int .i64 tn, .int .i64 P.a, .int .i64 P.l, .int .i64 P.c]) (by simp [results, Tryz.results33, go_sem, g0, g1, g2, g3, g4, g5, hw5]) rfl ?_
    rw [HTK.out, HRR.out]
    have HK6 := HK5.out
    cases R with
    | ok t n =>
      obtain ⟨rfl, rfl, rfl, hr5⟩ := HPOST.out
      have hp := word_p _ _ _ HRR.out
      rw [headP_drop l i HI.out, HPP.out] at hp
      refine ⟨?_, ?_, ?_⟩
      · unfold tokV
        rw [hp]
      · (repeat (with_reducible first | exact hr5 | refine ReadAt.setOther ?_ ?_ _ | refine ReadAt.alloc ?_ _)) <;> (simp; omega)
      · (repeat (with_reducible first | exact HK6 | refine Keep.setNew ?_ ?_ _ | refine Keep.alloc ?_ _)) <;> (simp <;> omega)
    | bad E q =>
      obtain ⟨jj, hr5⟩ := HPOST.out
      refine ⟨⟨_, _, _, _, _, _, rfl⟩, ⟨jj, ?_⟩, ?_⟩
      · (repeat (with_reducible first | exact hr5 | refine ReadAt.setOther ?_ ?_ _ | refine ReadAt.alloc ?_ _)) <;> (simp; omega)
      · (repeat (with_reducible first | exact HK6 | refine Keep.setNew ?_ ?_ _ | refine Keep.alloc ?_ _)) <;> (simp <;> omega)
  · by_cases h4 : k = 4
    · subst h4
      have htok : T.token (l.drop i) = T.word (l.drop i) := by
        unfold T.token
        rw [HPK.out, HK.out]
        rfl
      have HTK := Lib.hid htok
      clear htok
      go_wp2
      go_region_held3 (fun w' => w'.cell? ⟨b, 0, none⟩ = some (.slice (some ⟨g, off, none⟩) m c) ∧ w'.cell? ⟨b, 1, none⟩ = some (.int .i64 i) ∧ w'.cell? ⟨g, off + i * 4 + 1, none⟩ = some (.int .i64 P.a) ∧ w'.cell? ⟨g, off + i * 4 + 1 + 1, none⟩ = some (.int .i64 P.l) ∧ w'.cell? ⟨g, off + i * 4 + 1 + 2, none⟩ = some (.int .i64 P.c)) (go_keep) (fail)
      go_wp2_with fail
      obtain ⟨V, hV⟩ : ∃ V, (W1.drewN (m0 + 1)).alloc (.cells #[.int .i64 P.a, .int .i64 P.l, .int .i64 P.c] 29) = V := ⟨_, rfl⟩
      rw [hV]
      have hbV : Below w.heap.size w V := by
        rw [← hV]
        (repeat (with_reducible first | exact HB1.out | refine Below.setCell ?_ ?_ _ | refine Below.alloc ?_ ?_ _ | refine Below.drewN ?_ _ | refine Below.drew ?_)) <;> first | omega | (simp; omega) | (simp; done)
      have hzV : V.heap.size = w.heap.size + 2 := by rw [← hV]; simp [hz1]
      have hsV : Blk V w.heap.size #[.int .u8 0, .string ⟨#[]⟩, .int .i64 0, .int .i64 0, .int .i64 0, .int .i64 0] 42 := by rw [← hV]; exact Blk.alloc (w := W1.drewN (m0 + 1)) HS1.out _
      have haV : Blk V (w.heap.size + 1) #[.int .i64 P.a, .int .i64 P.l, .int .i64 P.c] 29 := by rw [← hV]; exact Blk.new _ _ _ _ (by simp [hz1])
      have HRV := Lib.hid (HR.out.keep hbV)
      have HTV := Lib.hid (HT.out.below (hbV.mono HT.out.le))
      have HBV := Lib.hid hbV
      have HSV := Lib.hid hsV
      have HAV := Lib.hid haV
      clear hV hbV hsV haV
      obtain ⟨R, hR⟩ : ∃ R, T.word (l.drop i) = R := ⟨_, rfl⟩
      have hcall := word_any G b B i l p V HTV.out hG HRV.out HI.out
      rw [hR] at hcall
      have HRR := Lib.hid hR
      clear hR
      refine hcall.mono ?_
      clear hcall
      rintro o w5 htell
      obtain ⟨tk, tx, tn, rfl, hk5, hpost⟩ := tells_split htell
      clear htell
      have hks := HSV.out.keep hk5 (by omega)
      have g0 := hks.cell 0; have k0 := hks.free 0
      have g1 := hks.cell 1; have k1 := hks.free 1
      have g2 := hks.cell 2; have k2 := hks.free 2
      have g3 := hks.cell 3; have k3 := hks.free 3
      have g4 := hks.cell 4; have k4 := hks.free 4
      have g5 := hks.cell 5; have k5 := hks.free 5
      have hka := HAV.out.keep hk5 (by omega)
      have q0 := hka.cell 0
      have q1 := hka.cell 1
      have q2 := hka.cell 2
      simp only [List.getElem?_toArray, List.getElem?_cons_zero, List.getElem?_cons_succ] at g0 g1 g2 g3 g4 g5 q0 q1 q2
      have hs5 := hk5.size
      rw [hzV] at hs5
      have hw5 : w.heap.size < w5.heap.size := by omega
      have hw5' : w.heap.size + 1 < w5.heap.size := by omega
      have HPOST := Lib.hid hpost
      have HK5 := Lib.hid ((Keep.of_below HBV.out).trans hk5)
      clear hks hka hpost hk5
      go_wp2
      refine bodyPost_ret (v := .agg #[.int .u8 tk, .string tx, .int .i64 tn, .int .i64 P.a, .int .i64 P.l, .int .i64 P.c]) (by simp [results, Tryz.results33, go_sem, g0, g1, g2, g3, g4, g5, hw5]) rfl ?_
      rw [HTK.out, HRR.out]
      have HK6 := HK5.out
      cases R with
      | ok t n =>
        obtain ⟨rfl, rfl, rfl, hr5⟩ := HPOST.out
        have hp := word_p _ _ _ HRR.out
        rw [headP_drop l i HI.out, HPP.out] at hp
        refine ⟨?_, ?_, ?_⟩
        · unfold tokV
          rw [hp]
        · (repeat (with_reducible first | exact hr5 | refine ReadAt.setOther ?_ ?_ _ | refine ReadAt.alloc ?_ _)) <;> (simp; omega)
        · (repeat (with_reducible first | exact HK6 | refine Keep.setNew ?_ ?_ _ | refine Keep.alloc ?_ _)) <;> (simp <;> omega)
      | bad E q =>
        obtain ⟨jj, hr5⟩ := HPOST.out
        refine ⟨⟨_, _, _, _, _, _, rfl⟩, ⟨jj, ?_⟩, ?_⟩
        · (repeat (with_reducible first | exact hr5 | refine ReadAt.setOther ?_ ?_ _ | refine ReadAt.alloc ?_ _)) <;> (simp; omega)
        · (repeat (with_reducible first | exact HK6 | refine Keep.setNew ?_ ?_ _ | refine Keep.alloc ?_ _)) <;> (simp <;> omega)
    · have h3' : (k == 3) = false := by rw [beq_eq_false_iff_ne]; exact h3
      have h4' : (k == 4) = false := by rw [beq_eq_false_iff_ne]; exact h4
      have H3 := Lib.hid h3
      have H4 := Lib.hid h4
      clear h3 h4
      by_cases h2 : k = 2
      · subst h2
        have htok : T.token (l.drop i) = T.number (l.drop i) := by
          unfold T.token
          rw [HPK.out, HK.out]
          rfl
        have HTK := Lib.hid htok
        clear htok
        go_wp2
        go_region_held3 (fun w' => w'.cell? ⟨b, 0, none⟩ = some (.slice (some ⟨g, off, none⟩) m c) ∧ w'.cell? ⟨b, 1, none⟩ = some (.int .i64 i) ∧ w'.cell? ⟨g, off + i * 4 + 1, none⟩ = some (.int .i64 P.a) ∧ w'.cell? ⟨g, off + i * 4 + 1 + 1, none⟩ = some (.int .i64 P.l) ∧ w'.cell? ⟨g, off + i * 4 + 1 + 2, none⟩ = some (.int .i64 P.c)) (go_keep) (fail)
        go_wp2_with fail
        obtain ⟨V, hV⟩ : ∃ V, (W1.drewN (m0 + 1)).alloc (.cells #[.int .i64 P.a, .int .i64 P.l, .int .i64 P.c] 29) = V := ⟨_, rfl⟩
        rw [hV]
        have hbV : Below w.heap.size w V := by
          rw [← hV]
          (repeat (with_reducible first | exact HB1.out | refine Below.setCell ?_ ?_ _ | refine Below.alloc ?_ ?_ _ | refine Below.drewN ?_ _ | refine Below.drew ?_)) <;> first | omega | (simp; omega) | (simp; done)
        have hzV : V.heap.size = w.heap.size + 2 := by rw [← hV]; simp [hz1]
        have hsV : Blk V w.heap.size #[.int .u8 0, .string ⟨#[]⟩, .int .i64 0, .int .i64 0, .int .i64 0, .int .i64 0] 42 := by rw [← hV]; exact Blk.alloc (w := W1.drewN (m0 + 1)) HS1.out _
        have haV : Blk V (w.heap.size + 1) #[.int .i64 P.a, .int .i64 P.l, .int .i64 P.c] 29 := by rw [← hV]; exact Blk.new _ _ _ _ (by simp [hz1])
        have HRV := Lib.hid (HR.out.keep hbV)
        have HTV := Lib.hid (HT.out.below (hbV.mono HT.out.le))
        have HBV := Lib.hid hbV
        have HSV := Lib.hid hsV
        have HAV := Lib.hid haV
        clear hV hbV hsV haV
        obtain ⟨R, hR⟩ : ∃ R, T.number (l.drop i) = R := ⟨_, rfl⟩
        have hcall := number_any G b B i l p V HTV.out hG HRV.out HI.out (by rw [HRL.out, HK.out])
        rw [hR] at hcall
        have HRR := Lib.hid hR
        clear hR
        refine hcall.mono ?_
        clear hcall
        rintro o w5 htell
        obtain ⟨tk, tx, tn, rfl, hk5, hpost⟩ := tells_split htell
        clear htell
        have hks := HSV.out.keep hk5 (by omega)
        have g0 := hks.cell 0; have k0 := hks.free 0
        have g1 := hks.cell 1; have k1 := hks.free 1
        have g2 := hks.cell 2; have k2 := hks.free 2
        have g3 := hks.cell 3; have k3 := hks.free 3
        have g4 := hks.cell 4; have k4 := hks.free 4
        have g5 := hks.cell 5; have k5 := hks.free 5
        have hka := HAV.out.keep hk5 (by omega)
        have q0 := hka.cell 0
        have q1 := hka.cell 1
        have q2 := hka.cell 2
        simp only [List.getElem?_toArray, List.getElem?_cons_zero, List.getElem?_cons_succ] at g0 g1 g2 g3 g4 g5 q0 q1 q2
        have hs5 := hk5.size
        rw [hzV] at hs5
        have hw5 : w.heap.size < w5.heap.size := by omega
        have hw5' : w.heap.size + 1 < w5.heap.size := by omega
        have HPOST := Lib.hid hpost
        have HK5 := Lib.hid ((Keep.of_below HBV.out).trans hk5)
        clear hks hka hpost hk5
        go_wp2
        refine bodyPost_ret (v := .agg #[.int .u8 tk, .string tx, .int .i64 tn, .int .i64 P.a, .int .i64 P.l, .int .i64 P.c]) (by simp [results, Tryz.results33, go_sem, g0, g1, g2, g3, g4, g5, hw5]) rfl ?_
        rw [HTK.out, HRR.out]
        have HK6 := HK5.out
        cases R with
        | ok t n =>
          obtain ⟨rfl, rfl, rfl, hr5⟩ := HPOST.out
          have hp := number_p _ _ _ HRR.out
          rw [headP_drop l i HI.out, HPP.out] at hp
          refine ⟨?_, ?_, ?_⟩
          · unfold tokV
            rw [hp]
          · (repeat (with_reducible first | exact hr5 | refine ReadAt.setOther ?_ ?_ _ | refine ReadAt.alloc ?_ _)) <;> (simp; omega)
          · (repeat (with_reducible first | exact HK6 | refine Keep.setNew ?_ ?_ _ | refine Keep.alloc ?_ _)) <;> (simp <;> omega)
        | bad E q =>
          obtain ⟨jj, hr5⟩ := HPOST.out
          refine ⟨⟨_, _, _, _, _, _, rfl⟩, ⟨jj, ?_⟩, ?_⟩
          · (repeat (with_reducible first | exact hr5 | refine ReadAt.setOther ?_ ?_ _ | refine ReadAt.alloc ?_ _)) <;> (simp; omega)
          · (repeat (with_reducible first | exact HK6 | refine Keep.setNew ?_ ?_ _ | refine Keep.alloc ?_ _)) <;> (simp <;> omega)
      · have h2' : (k == 2) = false := by rw [beq_eq_false_iff_ne]; exact h2
        have H2 := Lib.hid h2
        clear h2
        go_wp2_with fail
        refine (HP0.out _).mono ?_
        rintro _ _ ⟨rfl, m1, rfl⟩
        by_cases h34 : r = 34
        · subst h34
          have htok : T.token (l.drop i) = T.quoted (l.drop i) := by
            unfold T.token
            simp only [HPK.out, HK.out]
            rw [if_neg (fun h => h.elim H3.out H4.out), if_neg H2.out, if_pos trivial]
          have HTK := Lib.hid htok
          clear htok
          go_wp2
          go_region_held3 (fun w' => w'.cell? ⟨b, 0, none⟩ = some (.slice (some ⟨g, off, none⟩) m c) ∧ w'.cell? ⟨b, 1, none⟩ = some (.int .i64 i) ∧ w'.cell? ⟨g, off + i * 4 + 1, none⟩ = some (.int .i64 P.a) ∧ w'.cell? ⟨g, off + i * 4 + 1 + 1, none⟩ = some (.int .i64 P.l) ∧ w'.cell? ⟨g, off + i * 4 + 1 + 2, none⟩ = some (.int .i64 P.c)) (go_keep) (fail)
          go_wp2_with fail
          obtain ⟨V, hV⟩ : ∃ V, (W1.drewN (m0 + m1 + 1)).alloc (.cells #[.int .i64 P.a, .int .i64 P.l, .int .i64 P.c] 29) = V := ⟨_, rfl⟩
          rw [hV]
          have hbV : Below w.heap.size w V := by
            rw [← hV]
            (repeat (with_reducible first | exact HB1.out | refine Below.setCell ?_ ?_ _ | refine Below.alloc ?_ ?_ _ | refine Below.drewN ?_ _ | refine Below.drew ?_)) <;> first | omega | (simp; omega) | (simp; done)
          have hzV : V.heap.size = w.heap.size + 2 := by rw [← hV]; simp [hz1]
          have hsV : Blk V w.heap.size #[.int .u8 0, .string ⟨#[]⟩, .int .i64 0, .int .i64 0, .int .i64 0, .int .i64 0] 42 := by rw [← hV]; exact Blk.alloc (w := W1.drewN (m0 + m1 + 1)) HS1.out _
          have haV : Blk V (w.heap.size + 1) #[.int .i64 P.a, .int .i64 P.l, .int .i64 P.c] 29 := by rw [← hV]; exact Blk.new _ _ _ _ (by simp [hz1])
          have HRV := Lib.hid (HR.out.keep hbV)
          have HTV := Lib.hid (HT.out.below (hbV.mono HT.out.le))
          have HBV := Lib.hid hbV
          have HSV := Lib.hid hsV
          have HAV := Lib.hid haV
          clear hV hbV hsV haV
          obtain ⟨R, hR⟩ : ∃ R, T.quoted (l.drop i) = R := ⟨_, rfl⟩
          have hcall := quoted_any G b B i l p V HTV.out hG HRV.out HI.out
          rw [hR] at hcall
          have HRR := Lib.hid hR
          clear hR
          refine hcall.mono ?_
          clear hcall
          rintro o w5 htell
          obtain ⟨tk, tx, tn, rfl, hk5, hpost⟩ := tells_split htell
          clear htell
          have hks := HSV.out.keep hk5 (by omega)
          have g0 := hks.cell 0; have k0 := hks.free 0
          have g1 := hks.cell 1; have k1 := hks.free 1
          have g2 := hks.cell 2; have k2 := hks.free 2
          have g3 := hks.cell 3; have k3 := hks.free 3
          have g4 := hks.cell 4; have k4 := hks.free 4
          have g5 := hks.cell 5; have k5 := hks.free 5
          have hka := HAV.out.keep hk5 (by omega)
          have q0 := hka.cell 0
          have q1 := hka.cell 1
          have q2 := hka.cell 2
          simp only [List.getElem?_toArray, List.getElem?_cons_zero, List.getElem?_cons_succ] at g0 g1 g2 g3 g4 g5 q0 q1 q2
          have hs5 := hk5.size
          rw [hzV] at hs5
          have hw5 : w.heap.size < w5.heap.size := by omega
          have hw5' : w.heap.size + 1 < w5.heap.size := by omega
          have HPOST := Lib.hid hpost
          have HK5 := Lib.hid ((Keep.of_below HBV.out).trans hk5)
          clear hks hka hpost hk5
          go_wp2
          refine bodyPost_ret (v := .agg #[.int .u8 tk, .string tx, .int .i64 tn, .int .i64 P.a, .int .i64 P.l, .int .i64 P.c]) (by simp [results, Tryz.results33, go_sem, g0, g1, g2, g3, g4, g5, hw5]) rfl ?_
          rw [HTK.out, HRR.out]
          have HK6 := HK5.out
          cases R with
          | ok t n =>
            obtain ⟨rfl, rfl, rfl, hr5⟩ := HPOST.out
            have hp := quoted_p _ _ _ HRR.out
            rw [headP_drop l i HI.out, HPP.out] at hp
            refine ⟨?_, ?_, ?_⟩
            · unfold tokV
              rw [hp]
            · (repeat (with_reducible first | exact hr5 | refine ReadAt.setOther ?_ ?_ _ | refine ReadAt.alloc ?_ _)) <;> (simp; omega)
            · (repeat (with_reducible first | exact HK6 | refine Keep.setNew ?_ ?_ _ | refine Keep.alloc ?_ _)) <;> (simp <;> omega)
          | bad E q =>
            obtain ⟨jj, hr5⟩ := HPOST.out
            refine ⟨⟨_, _, _, _, _, _, rfl⟩, ⟨jj, ?_⟩, ?_⟩
            · (repeat (with_reducible first | exact hr5 | refine ReadAt.setOther ?_ ?_ _ | refine ReadAt.alloc ?_ _)) <;> (simp; omega)
            · (repeat (with_reducible first | exact HK6 | refine Keep.setNew ?_ ?_ _ | refine Keep.alloc ?_ _)) <;> (simp <;> omega)
        · have h34' : (r == 34) = false := by rw [beq_eq_false_iff_ne]; exact h34
          have htok : T.token (l.drop i) = T.sign (l.drop i) := by
            unfold T.token
            simp only [HPK.out, HK.out]
            rw [if_neg (fun h => h.elim H3.out H4.out), if_neg H2.out, if_neg h34]
          have HTK := Lib.hid htok
          clear htok h34
          go_wp2
          go_region_held3 (fun w' => w'.cell? ⟨b, 0, none⟩ = some (.slice (some ⟨g, off, none⟩) m c) ∧ w'.cell? ⟨b, 1, none⟩ = some (.int .i64 i) ∧ w'.cell? ⟨g, off + i * 4 + 1, none⟩ = some (.int .i64 P.a) ∧ w'.cell? ⟨g, off + i * 4 + 1 + 1, none⟩ = some (.int .i64 P.l) ∧ w'.cell? ⟨g, off + i * 4 + 1 + 2, none⟩ = some (.int .i64 P.c)) (go_keep) (fail)
          go_wp2_with fail
          obtain ⟨V, hV⟩ : ∃ V, (W1.drewN (m0 + m1 + 1)).alloc (.cells #[.int .i64 P.a, .int .i64 P.l, .int .i64 P.c] 29) = V := ⟨_, rfl⟩
          rw [hV]
          have hbV : Below w.heap.size w V := by
            rw [← hV]
            (repeat (with_reducible first | exact HB1.out | refine Below.setCell ?_ ?_ _ | refine Below.alloc ?_ ?_ _ | refine Below.drewN ?_ _ | refine Below.drew ?_)) <;> first | omega | (simp; omega) | (simp; done)
          have hzV : V.heap.size = w.heap.size + 2 := by rw [← hV]; simp [hz1]
          have hsV : Blk V w.heap.size #[.int .u8 0, .string ⟨#[]⟩, .int .i64 0, .int .i64 0, .int .i64 0, .int .i64 0] 42 := by rw [← hV]; exact Blk.alloc (w := W1.drewN (m0 + m1 + 1)) HS1.out _
          have haV : Blk V (w.heap.size + 1) #[.int .i64 P.a, .int .i64 P.l, .int .i64 P.c] 29 := by rw [← hV]; exact Blk.new _ _ _ _ (by simp [hz1])
          have HRV := Lib.hid (HR.out.keep hbV)
          have HTV := Lib.hid (HT.out.below (hbV.mono HT.out.le))
          have HBV := Lib.hid hbV
          have HSV := Lib.hid hsV
          have HAV := Lib.hid haV
          clear hV hbV hsV haV
          obtain ⟨R, hR⟩ : ∃ R, T.sign (l.drop i) = R := ⟨_, rfl⟩
          have hcall := sign_any G b B i l p V HTV.out hG HRV.out HI.out
          rw [hR] at hcall
          have HRR := Lib.hid hR
          clear hR
          refine hcall.mono ?_
          clear hcall
          rintro o w5 htell
          obtain ⟨tk, tx, tn, rfl, hk5, hpost⟩ := tells_split htell
          clear htell
          have hks := HSV.out.keep hk5 (by omega)
          have g0 := hks.cell 0; have k0 := hks.free 0
          have g1 := hks.cell 1; have k1 := hks.free 1
          have g2 := hks.cell 2; have k2 := hks.free 2
          have g3 := hks.cell 3; have k3 := hks.free 3
          have g4 := hks.cell 4; have k4 := hks.free 4
          have g5 := hks.cell 5; have k5 := hks.free 5
          have hka := HAV.out.keep hk5 (by omega)
          have q0 := hka.cell 0
          have q1 := hka.cell 1
          have q2 := hka.cell 2
          simp only [List.getElem?_toArray, List.getElem?_cons_zero, List.getElem?_cons_succ] at g0 g1 g2 g3 g4 g5 q0 q1 q2
          have hs5 := hk5.size
          rw [hzV] at hs5
          have hw5 : w.heap.size < w5.heap.size := by omega
          have hw5' : w.heap.size + 1 < w5.heap.size := by omega
          have HPOST := Lib.hid hpost
          have HK5 := Lib.hid ((Keep.of_below HBV.out).trans hk5)
          clear hks hka hpost hk5
          go_wp2
          refine bodyPost_ret (v := .agg #[.int .u8 tk, .string tx, .int .i64 tn, .int .i64 P.a, .int .i64 P.l, .int .i64 P.c]) (by simp [results, Tryz.results33, go_sem, g0, g1, g2, g3, g4, g5, hw5]) rfl ?_
          rw [HTK.out, HRR.out]
          have HK6 := HK5.out
          cases R with
          | ok t n =>
            obtain ⟨rfl, rfl, rfl, hr5⟩ := HPOST.out
            have hp := sign_p _ _ _ HRR.out
            rw [headP_drop l i HI.out, HPP.out] at hp
            refine ⟨?_, ?_, ?_⟩
            · unfold tokV
              rw [hp]
            · (repeat (with_reducible first | exact hr5 | refine ReadAt.setOther ?_ ?_ _ | refine ReadAt.alloc ?_ _)) <;> (simp; omega)
            · (repeat (with_reducible first | exact HK6 | refine Keep.setNew ?_ ?_ _ | refine Keep.alloc ?_ _)) <;> (simp <;> omega)
          | bad E q =>
            obtain ⟨jj, hr5⟩ := HPOST.out
            refine ⟨⟨_, _, _, _, _, _, rfl⟩, ⟨jj, ?_⟩, ?_⟩
            · (repeat (with_reducible first | exact hr5 | refine ReadAt.setOther ?_ ?_ _ | refine ReadAt.alloc ?_ _)) <;> (simp; omega)
            · (repeat (with_reducible first | exact HK6 | refine Keep.setNew ?_ ?_ _ | refine Keep.alloc ?_ _)) <;> (simp <;> omega)
end Go.Proofs.YtaojgcioljcpmaaGreatDoor
