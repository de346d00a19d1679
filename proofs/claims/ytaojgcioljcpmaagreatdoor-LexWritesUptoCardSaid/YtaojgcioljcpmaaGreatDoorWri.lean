/- Contract: lex.Write. -/
import Derived.Test.YtaojgcioljcpmaaGreatDoorMay
namespace Go.Proofs.YtaojgcioljcpmaaGreatDoor
open Go.RowKit

theorem joined_snoc : ∀ (l : List T.Tok) (t : T.Tok), T.joined (l ++ [t]) = T.joined l ++ ((if l = [] then [] else [32]) ++ T.one t)
  | [], t => by show T.one t ++ T.tailW [] = _; simp [T.joined, T.tailW]
  | x :: l, t => by
    show T.one x ++ T.tailW (l ++ [t]) = T.one x ++ T.tailW l ++ _
    simp [T.tailW]
theorem joined_take (l : List T.Tok) (i : Nat) (h : i < l.length) : T.joined (l.take (i + 1)) = T.joined (l.take i) ++ ((if i = 0 then [] else [32]) ++ T.one (l[i]'h)) := by
  rw [take_snoc' l i h, joined_snoc]
  congr 2
  by_cases h0 : i = 0
  · subst h0; rfl
  · rw [if_neg h0, if_neg]
    intro he
    have := congrArg List.length he
    rw [List.length_take, List.length_nil] at this
    omega
theorem all_take (l : List T.Tok) (i : Nat) (h : i < l.length) : (l.take (i + 1)).all T.may = ((l.take i).all T.may && T.may (l[i]'h)) := by
  rw [take_snoc' l i h, List.all_append]
  simp
theorem all_of_take (l : List T.Tok) (n : Nat) (h : (l.take n).all T.may = false) : l.all T.may = false := by rw [← List.take_append_drop n l, List.all_append, h]; rfl
/-- the tokens of a list that is handed in: small texts, numbers of 64 bits -/
def TokOk (t : T.Tok) : Prop := t.t.length ≤ 1048576 ∧ -9223372036854775808 ≤ t.n ∧ t.n ≤ 9223372036854775807
theorem may_p0 (k : Int) (t : List UInt8) (n : Int) (p : U.Pos) : T.may ⟨k, t, n, p⟩ = T.may ⟨k, t, n, U.zero⟩ := rfl
theorem one_p0 (k : Int) (t : List UInt8) (n : Int) (p : U.Pos) : T.one ⟨k, t, n, p⟩ = T.one ⟨k, t, n, U.zero⟩ := rfl

set_option maxRecDepth 50000 in
set_option maxHeartbeats 4000000 in
theorem write_any (G : Nat) (l : List T.Tok) (a : Option Addr) (m c : Nat) (w : World) (hT : Tabs G w) (hm : l.length = m) (hmm : m ≤ 1000000) (hok : ∀ t ∈ l, TokOk t)
    (hrow : Row w w.heap.size 6 (.slice a m c) m (toksCells l)) :
    Calls Tryz.prog 10 #[.slice a m c] w fun e w' => e = .returned (.tuple #[.string ⟨(T.write l).1.toArray⟩, .int .i64 (T.write l).2]) ∧ Below w.heap.size w w' := by
  have hwr : ∀ (b : Bool) (J : List UInt8), l.all T.may = b → T.joined l = J → T.write l = if b = true then (if 4000 < J.length then ([], 3) else (J, 0)) else ([], 2) := by
    intro b J hb hJ
    unfold T.write
    rw [hb, hJ]
  obtain ⟨R, hR⟩ : ∃ R, T.write l = R := ⟨_, rfl⟩
  rw [hR] at hwr ⊢
  have HWR := Lib.hid hwr
  have HM := Lib.hid hm
  have HOK := Lib.hid hok
  have HROW := Lib.hid hrow
  clear hwr hR hm hok hrow
  go_enter Tryz.func10, Tryz.ntmps10
  go_wp2
  go_loopw [10, 4] (fun u v wr => ∃ (i : Nat) (lg : Bool) (P : List UInt8), u = .int .i64 i ∧ v = .bool lg ∧ i ≤ m ∧ lg = decide (4000 < (T.joined (l.take i)).length) ∧ (l.take i).all T.may = true ∧ (lg = false → P = T.joined (l.take i)) ∧ P.length ≤ 4000000 ∧ Lib.IsBuilderF 40 5 w.heap.size w.heap.size (Lib.byteCells P) wr ∧ Below w.heap.size w wr) (fun u _ _ => m - (intOf u).toNat)
  case atStart =>
    refine ⟨0, false, [], rfl, rfl, Nat.zero_le _, rfl, rfl, fun _ => rfl, Nat.zero_le _, Lib.IsBuilderF.of (Lib.fresh_isBuilder _ _ w), ?_⟩
    (repeat (with_reducible first | exact Below.refl _ _ | refine Below.setCell ?_ ?_ _ | refine Below.alloc ?_ ?_ _ | refine Below.drewN ?_ _ | refine Below.drew ?_)) <;> first | omega | (simp; omega) | (simp; done)
  case round =>
    obtain ⟨i, lg, P, rfl, rfl, hi, hlg, hall, hP, hPl, hbu, hbe⟩ := hrel
    have hse := hbe.size
    have HLG := Lib.hid hlg
    have HALL := Lib.hid hall
    have HPP := Lib.hid hP
    have HBU := Lib.hid hbu
    have HBE := Lib.hid hbe
    have hwlt : w.heap.size < wr.heap.size := by rcases hbu with h | h <;> exact h.lt
    clear hlg hall hP hbu
    by_cases hlt : i < m
    · have hil : i < l.length := by rw [HM.out]; exact hlt
      obtain ⟨g, off, rfl, hg, hc, d0, d1, d2, d3, d4, d5⟩ := row_tok HROW.out HM.out i hil
      have hjn := joined_take l i hil
      have han := all_take l i hil
      have hto := HOK.out _ (List.getElem_mem hil)
      obtain ⟨x, hx⟩ : ∃ x, l[i]'hil = x := ⟨_, rfl⟩
      rw [hx] at d0 d1 d2 d3 d4 d5 hjn han hto
      obtain ⟨k, tt, n, ⟨pa, pl, pc⟩⟩ := x
      obtain ⟨ht1, ht2, ht3⟩ := hto
      simp only at d0 d1 d2 d3 d4 d5 ht1 ht2 ht3
      have e0 := (hbe.cell (p := ⟨g, off + i * 6, none⟩) hg).trans d0
      have e1 := (hbe.cell (p := ⟨g, off + i * 6 + 1, none⟩) hg).trans d1
      have e2 := (hbe.cell (p := ⟨g, off + i * 6 + 2, none⟩) hg).trans d2
      have e3 := (hbe.cell (p := ⟨g, off + i * 6 + 3, none⟩) hg).trans d3
      have e4 : wr.cell? ⟨g, off + i * 6 + 3 + 1, none⟩ = _ := (hbe.cell (p := ⟨g, off + i * 6 + 4, none⟩) hg).trans d4
      have e5 : wr.cell? ⟨g, off + i * 6 + 3 + 2, none⟩ = _ := (hbe.cell (p := ⟨g, off + i * 6 + 5, none⟩) hg).trans d5
      have hmay := fun (W : World) (hW : Below w.heap.size w W) => may_any' G k tt n W (hT.below (hW.mono hT.le)) ht1 ⟨ht2, ht3⟩
      have hone := fun (W : World) (hW : Below w.heap.size w W) => one_any G ⟨k, tt, n, U.zero⟩ W (hT.below (hW.mono hT.le)) ht1 ⟨ht2, ht3⟩
      have hol := one_len2 ⟨k, tt, n, U.zero⟩ ⟨ht2, ht3⟩
      obtain ⟨B, hB⟩ : ∃ B, T.may ⟨k, tt, n, U.zero⟩ = B := ⟨_, rfl⟩
      obtain ⟨O, hO⟩ : ∃ O, T.one ⟨k, tt, n, U.zero⟩ = O := ⟨_, rfl⟩
      rw [may_p0, hB] at han
      rw [one_p0, hO] at hjn
      rw [hB] at hmay
      rw [hO] at hone hol
      have HMAY := Lib.hid hmay
      have HONE := Lib.hid hone
      have HJN := Lib.hid hjn
      have HAN := Lib.hid han
      have hol2 : O.length ≤ 2097174 := by simp only at hol; omega
      clear hmay hone hjn han hx hB hO d0 d1 d2 d3 d4 d5 hbe hol
      have him : (i : Int) < (m : Int) := by omega
      cases B with
      | false =>
        go_wp2_with (go_at_call 27; refine (HMAY.out _ (HBE.out.alloc hse _)).mono ?_; rintro e w2 ⟨rfl, hb2⟩)
        have hR := HWR.out false _ (all_of_take l (i + 1) (by rw [HAN.out, Bool.and_false])) rfl
        rw [if_neg (by decide)] at hR
        subst hR
        go_ret2
        exact ⟨rfl, (HBE.out.alloc hse _).trans (hb2.mono (by simp; omega))⟩
      | true =>
        cases lg with
        | true =>
          go_wp2_with (go_at_call 27; refine (HMAY.out _ (HBE.out.alloc hse _)).mono ?_; rintro e w2 ⟨rfl, hb2⟩)
          have hs2 := hb2.size
          simp only [World.size_alloc] at hs2
          have hlong : decide (4000 < (T.joined (l.take (i + 1))).length) = true := by
            have := of_decide_eq_true HLG.out.symm
            rw [HJN.out, List.length_append]
            exact decide_eq_true (by omega)
          go_roundw
          case rel =>
            refine ⟨i + 1, true, P, by go_num, rfl, hlt, hlong.symm, by rw [HAN.out, HALL.out]; rfl, fun h => (by cases h), hPl, ?_, ?_⟩
            · exact builder_below (Lib.IsBuilderF.alloc HBU.out _) hb2
            · exact (HBE.out.alloc hse _).trans (hb2.mono (by simp; omega))
          case measure => simp [intOf]; omega
        | false =>
          have hPJ := HPP.out rfl
          have hJ4 : ¬ 4000 < (T.joined (l.take i)).length := of_decide_eq_false HLG.out.symm
          rw [← hPJ] at hJ4
          have HPJ := Lib.hid hPJ
          clear hPJ
          by_cases h0 : i = 0
          · have hi0 : ¬ (0 : Int) < (i : Int) := by omega
            have HI0 := Lib.hid h0
            clear h0
            go_wp2_with (first | (go_at_call 27; refine (HMAY.out _ (HBE.out.alloc hse _)).mono ?_; rintro e w2 ⟨rfl, hb2⟩; have HBU2 := Lib.hid (builder_below (Lib.IsBuilderF.alloc HBU.out _) hb2); have HBE2 := Lib.hid ((HBE.out.alloc hse _).trans (hb2.mono (by simp; omega))); have hs2 := hb2.size; simp only [World.size_alloc] at hs2; have hbt := (Blk.new wr wr.heap.size #[.int .u8 k, .string ⟨tt.toArray⟩, .int .i64 n, .int .i64 0, .int .i64 0, .int .i64 0] 42 rfl).below hb2 (by simp); have c0 : w2.cell? ⟨wr.heap.size, 0, none⟩ = _ := hbt.cell 0; have c1 : w2.cell? ⟨wr.heap.size, 1, none⟩ = _ := hbt.cell 1; have c2 : w2.cell? ⟨wr.heap.size, 2, none⟩ = _ := hbt.cell 2; have c3 : w2.cell? ⟨wr.heap.size, 3, none⟩ = _ := hbt.cell 3; have c4 : w2.cell? ⟨wr.heap.size, 4, none⟩ = _ := hbt.cell 4; have c5 : w2.cell? ⟨wr.heap.size, 5, none⟩ = _ := hbt.cell 5; clear hb2) | fail)
            go_wp2_with (first | (go_at_call 28; refine (HONE.out _ HBE2.out).mono ?_; rintro e w3 ⟨rfl, hb3⟩; have HBU3 := Lib.hid (builder_below HBU2.out hb3); have HBE3 := Lib.hid (HBE2.out.trans (hb3.mono (by omega))); have hs3 := hb3.size; clear hb3) | fail)
            go_wp2_with (first | (go_at_call 14; refine (bld_string w.heap.size w.heap.size _ _ w3 HBU3.out (by rw [Lib.byteCells_length]; show P.length + O.toArray.size ≤ _; rw [List.size_toArray]; omega) (by omega)).mono ?_; rintro e w4 ⟨rfl, hb4, hbe4, _⟩; have HB4 := Lib.hid hb4; have HBE4 := Lib.hid (HBE3.out.trans hbe4); clear hb4 hbe4) | fail)
            go_wp2_with (first | (go_at_call 16; refine (Tryz.Builder_Len_f w.heap.size w.heap.size _ w4 (.inr HB4.out)).mono ?_; rintro e w5 ⟨rfl, rfl⟩) | fail)
            have hJ : T.joined (l.take (i + 1)) = P ++ O := by rw [HJN.out, if_pos HI0.out, ← HPJ.out]; rfl
            have hlO : (Lib.strCells ⟨O.toArray⟩).length = O.length := by rw [Lib.strCells_length]; show O.toArray.size = _; rw [List.size_toArray]
            have hcc : Lib.byteCells P ++ Lib.strCells ⟨O.toArray⟩ = Lib.byteCells (P ++ O) := by rw [Lib.byteCells_append]; rfl
            refine ⟨⟨i + 1, decide (4000 < (P ++ O).length), P ++ O, by rw [Int.natCast_add]; rfl, ?_, hlt, by rw [hJ], by rw [HAN.out, HALL.out]; rfl, fun _ => hJ.symm, by rw [List.length_append]; omega, ?_, HBE4.out⟩, by simp [intOf]; omega⟩
            · rw [hlO, Lib.byteCells_length]
              congr 1
              exact decide_eq_decide.2 (by rw [List.length_append]; omega)
            · rw [← hcc]; exact .inr HB4.out
          · have hi0 : (0 : Int) < (i : Int) := by omega
            have HI0 := Lib.hid h0
            clear h0
            go_wp2_with (first | (go_at_call 27; refine (HMAY.out _ (HBE.out.alloc hse _)).mono ?_; rintro e w2 ⟨rfl, hb2⟩; have HBU2 := Lib.hid (builder_below (Lib.IsBuilderF.alloc HBU.out _) hb2); have HBE2 := Lib.hid ((HBE.out.alloc hse _).trans (hb2.mono (by simp; omega))); have hs2 := hb2.size; simp only [World.size_alloc] at hs2; have hbt := (Blk.new wr wr.heap.size #[.int .u8 k, .string ⟨tt.toArray⟩, .int .i64 n, .int .i64 0, .int .i64 0, .int .i64 0] 42 rfl).below hb2 (by simp); have c0 : w2.cell? ⟨wr.heap.size, 0, none⟩ = _ := hbt.cell 0; have c1 : w2.cell? ⟨wr.heap.size, 1, none⟩ = _ := hbt.cell 1; have c2 : w2.cell? ⟨wr.heap.size, 2, none⟩ = _ := hbt.cell 2; have c3 : w2.cell? ⟨wr.heap.size, 3, none⟩ = _ := hbt.cell 3; have c4 : w2.cell? ⟨wr.heap.size, 4, none⟩ = _ := hbt.cell 4; have c5 : w2.cell? ⟨wr.heap.size, 5, none⟩ = _ := hbt.cell 5; clear hb2) | fail)
            go_wp2_with (first | (go_at_call 15; refine (bld_byte w.heap.size w.heap.size _ _ w2 HBU2.out (by rw [Lib.byteCells_length]; omega) (by omega)).mono ?_; rintro e w3 ⟨rfl, hb3, hbe3, hk3⟩; have HB3 := Lib.hid hb3; have HBE3 := Lib.hid (HBE2.out.trans hbe3); have hs3 := hbe3.size; have hbt3 : Blk w3 wr.heap.size _ _ := hk3 _ _ hbt (fun he => by injection he with he; omega) (fun cc fz he => by injection he with he1 he2; exact absurd he2 (by decide)); have c03 : w3.cell? ⟨wr.heap.size, 0, none⟩ = _ := hbt3.cell 0; have c13 : w3.cell? ⟨wr.heap.size, 1, none⟩ = _ := hbt3.cell 1; have c23 : w3.cell? ⟨wr.heap.size, 2, none⟩ = _ := hbt3.cell 2; have c33 : w3.cell? ⟨wr.heap.size, 3, none⟩ = _ := hbt3.cell 3; have c43 : w3.cell? ⟨wr.heap.size, 4, none⟩ = _ := hbt3.cell 4; have c53 : w3.cell? ⟨wr.heap.size, 5, none⟩ = _ := hbt3.cell 5; clear hb3 hbe3 hk3) | fail)
            go_wp2_with (first | (go_at_call 28; refine (HONE.out _ HBE3.out).mono ?_; rintro e w4 ⟨rfl, hb4⟩; have HBU4 := Lib.hid (builder_below (.inr HB3.out) hb4); have HBE4 := Lib.hid (HBE3.out.trans (hb4.mono (by omega))); have hs4 := hb4.size; clear hb4) | fail)
            go_wp2_with (first | (go_at_call 14; refine (bld_string w.heap.size w.heap.size _ _ w4 HBU4.out (by rw [List.length_append, Lib.byteCells_length]; show P.length + 1 + O.toArray.size ≤ _; rw [List.size_toArray]; omega) (by omega)).mono ?_; rintro e w5 ⟨rfl, hb5, hbe5, _⟩; have HB5 := Lib.hid hb5; have HBE5 := Lib.hid (HBE4.out.trans hbe5); clear hb5 hbe5) | fail)
            go_wp2_with (first | (go_at_call 16; refine (Tryz.Builder_Len_f w.heap.size w.heap.size _ w5 (.inr HB5.out)).mono ?_; rintro e w6 ⟨rfl, rfl⟩) | fail)
            have hJ : T.joined (l.take (i + 1)) = P ++ ([32] ++ O) := by rw [HJN.out, if_neg HI0.out, ← HPJ.out]
            have hlO : (Lib.strCells ⟨O.toArray⟩).length = O.length := by rw [Lib.strCells_length]; show O.toArray.size = _; rw [List.size_toArray]
            have hcc : (Lib.byteCells P ++ [.int .u8 32]) ++ Lib.strCells ⟨O.toArray⟩ = Lib.byteCells (P ++ ([32] ++ O)) := by rw [Lib.byteCells_append, Lib.byteCells_append, List.append_assoc]; rfl
            refine ⟨⟨i + 1, decide (4000 < (P ++ ([32] ++ O)).length), P ++ ([32] ++ O), by rw [Int.natCast_add]; rfl, ?_, hlt, by rw [hJ], by rw [HAN.out, HALL.out]; rfl, fun _ => hJ.symm, by rw [List.length_append, List.length_append, List.length_singleton]; omega, ?_, HBE5.out⟩, by simp [intOf]; omega⟩
            · congr 1
              refine decide_eq_decide.2 ?_
              simp only [List.length_append, Lib.byteCells_length, hlO, List.length_cons, List.length_nil]
              omega
            · rw [← hcc]; exact .inr HB5.out
    · have hmi : i = m := by omega
      have him : ¬ (i : Int) < (m : Int) := by omega
      have htk : l.take i = l := List.take_of_length_le (by rw [HM.out]; omega)
      have h1 := HWR.out true _ (by rw [← htk]; exact HALL.out) rfl
      rw [if_pos rfl, ← htk] at h1
      cases lg with
      | true =>
        have h4 := of_decide_eq_true HLG.out.symm
        rw [if_pos h4] at h1
        subst h1
        clear hmi h4 htk
        go_wp2
        go_ret2
        exact ⟨rfl, HBE.out⟩
      | false =>
        have h4 := of_decide_eq_false HLG.out.symm
        rw [if_neg h4, ← HPP.out rfl] at h1
        subst h1
        clear hmi h4 htk
        go_wp2_with (go_at_call 17; refine (Tryz.Builder_String_any_k w.heap.size w.heap.size P _ HBU.out (by omega)).mono ?_; rintro e w2 ⟨rfl, _, hk2, _⟩)
        go_ret2
        exact ⟨rfl, HBE.out.trans hk2⟩
end Go.Proofs.YtaojgcioljcpmaaGreatDoor
