/- The walk of the law UtfBack. -/
import Derived.Test.YthhphmhddeoagaaDoorUtfN
namespace Go.Proofs.YthhphmhddeoagaaDoor
open Go.RowKit

theorem put_one (r : Int) (W : World) (b : Nat) (hb : b = W.heap.size) (hv : Lib.validRune r = true) :
    Calls Tryd.prog 13 #[.slice (some ⟨b, 0, none⟩) 1 1] (W.alloc (.cells #[.int .i32 r] 21)) fun e w' => e = .returned (.tuple #[.string ⟨(Lib.encodeRune r).toArray⟩, .int .i64 0]) ∧ Below (W.heap.size + 1) (W.alloc (.cells #[.int .i32 r] 21)) w' := by
  subst hb
  have h := Put_any (.slice (some ⟨W.heap.size, 0, none⟩) 1 1) [r] (W.alloc (.cells #[.int .i32 r] 21)) (by simp) ⟨rfl, by simp [maxLen], .inr ⟨W.heap.size, 0, 1, rfl, by simp, by simp, fun j u hj => by
    have := cells_new W W.heap.size (i32Cells [r]) 21 rfl j u hj
    have hadd : (⟨W.heap.size, 0, none⟩ : Addr).add j = ⟨W.heap.size, 0 + j, none⟩ := by unfold Addr.add; split <;> simp_all
    rwa [hadd] at this⟩⟩
  have e0 : U.encL [r] = Lib.encodeRune r := by simp [U.encL]
  have e1 : U.okL [r] = true := by simp [U.okL, hv]
  have h4 := (U.enc_length r).2
  have hne : ¬ 4000 < (Lib.encodeRune r).length := by omega
  have e2 : U.putE [r] = 0 := by simp only [U.putE, e0, e1, if_true, if_neg hne]
  have e3 : U.putB [r] = ⟨(Lib.encodeRune r).toArray⟩ := by simp only [U.putB, e0, e1, if_true, if_neg hne]
  rw [e2, e3] at h
  simpa using h

theorem infoI32 : (Tryd.prog.info? 21).map (fun i => (i.zero, i.size, i.bytes)) = some (some (.int .i32 0), 1, 4) := by kernel_rfl

namespace U
/-- the place of the i-th code point, or the end -/
def placeAt (l : List Pt) (q : Pos) (i : Nat) : Pos := match l[i]? with | some x => x.p | none => q
theorem placeAt_lt (l : List Pt) (q : Pos) (i : Nat) (h : i < l.length) : placeAt l q i = (l[i]'h).p := by simp [placeAt, h]
theorem placeAt_end (l : List Pt) (q : Pos) : placeAt l q l.length = q := by simp [placeAt]
theorem place_zero : ∀ (l : List Pt) (s : List UInt8) (p q : Pos), Run s p l q → placeAt l q 0 = p
  | [], s, p, q, h => h.2.symm
  | x :: l, s, p, q, h => by simp [placeAt, h.1]
theorem place_next : ∀ (l : List Pt) (s : List UInt8) (p q : Pos) (i : Nat) (h : i < l.length), Run s p l q →
    placeAt l q (i + 1) = next (placeAt l q i) (l[i]'h).r (Go.Lib.encodeRune (l[i]'h).r).length ∧ Go.Lib.validRune (l[i]'h).r = true
  | x :: l, s, p, q, 0, h, k => by
    obtain ⟨hp, hv, b, rfl, t⟩ := k
    have := place_zero l b _ q t
    refine ⟨?_, hv⟩
    simp only [placeAt, List.getElem?_cons_succ, List.getElem?_cons_zero, List.getElem_cons_zero] at this ⊢
    rw [hp]
    exact this
  | x :: l, s, p, q, i + 1, h, k => by
    obtain ⟨hp, hv, b, rfl, t⟩ := k
    have := place_next l b _ q i (by simpa using h) t
    simpa [placeAt] using this
end U

set_option maxRecDepth 100000 in
set_option maxHeartbeats 8000000 in
theorem UtfBack_walk (v : Value) (zs : List Int) (s : ByteArray) (w : World) (hs : s.size ≤ maxLen) (hT : Lib.Utf8Tabs 0 1 w) (h2 : 2 ≤ w.heap.size)
    (_hr : ∀ z ∈ zs, -2147483648 ≤ z ∧ z ≤ 2147483647) (hrow : Row w w.heap.size 1 v zs.length (i32Cells zs)) :
    Calls Tryd.prog 5 #[v, .string s] w fun e w' => e = .returned (.bool true) ∧ Below w.heap.size w w' := by
  have hsm : s.size ≤ 9223372036854775807 := by unfold maxLen at hs; omega
  have hzm : zs.length ≤ 9223372036854775807 := by have := hrow.2.1; unfold maxLen at this; omega
  obtain ⟨i0, hi0, hz0, hz1, hz2⟩ := info_parts infoI32
  have ck := known_any w hT h2
  have HT := Lib.hid hT
  clear hT
  by_cases hlz : 5000 < zs.length
  · have hlz' : (5000 : Int) < (zs.length : Int) := by omega
    obtain ⟨oa, cp, hv⟩ := hrow.slice
    subst hv
    clear hrow _hr
    go_enter Tryd.func5, Tryd.ntmps5
    go_wp2_with fail
    refine ck.mono ?_
    rintro e w1 ⟨rfl, hb1⟩
    have s1 := hb1.size
    go_wp2
    go_ret
    exact ⟨rfl, hb1⟩
  have hlz' : ¬ (5000 : Int) < (zs.length : Int) := by omega
  by_cases hls : 10000 < s.size
  · have hls' : (10000 : Int) < (s.size : Int) := by omega
    obtain ⟨oa, cp, hv⟩ := hrow.slice
    subst hv
    clear hrow _hr
    go_enter Tryd.func5, Tryd.ntmps5
    go_wp2_with fail
    refine ck.mono ?_
    rintro e w1 ⟨rfl, hb1⟩
    have s1 := hb1.size
    go_wp2
    go_ret
    exact ⟨rfl, hb1⟩
  have hls' : ¬ (10000 : Int) < (s.size : Int) := by omega
  have hlz2 : zs.length ≤ 5000 := by omega
  have cPut : ∀ W, Below w.heap.size w W → Calls Tryd.prog 13 #[v] W fun e w' => e = .returned (.tuple #[.string (U.putB zs), .int .i64 (U.putE zs)]) ∧ Below W.heap.size W w' := fun W hb =>
    Put_any v zs W (by omega) ((hrow.below hb).mono hb.size)
  have cP := fun W hT2 h => Points_any s W hs hT2 h
  have cE := fun W hT2 h => End_any s W hs hT2 h
  obtain ⟨E1, hE1⟩ : ∃ z, U.eE s.data.toList = z := ⟨_, rfl⟩
  obtain ⟨P1, hP1⟩ : ∃ z, U.eP s.data.toList = z := ⟨_, rfl⟩
  obtain ⟨Q, hQ⟩ : ∃ z, U.endP s.data.toList = z := ⟨_, rfl⟩
  obtain ⟨L1, hL1⟩ : ∃ z, U.pts s.data.toList = z := ⟨_, rfl⟩
  rw [hE1, hP1, hL1] at cP
  rw [hE1, hP1, hQ] at cE
  have hcases := eE_cases s.data.toList
  rw [hE1, hL1, hP1] at hcases
  obtain ⟨S, hS⟩ : ∃ z, U.putB zs = z := ⟨_, rfl⟩
  obtain ⟨E, hE⟩ : ∃ z, U.putE zs = z := ⟨_, rfl⟩
  rw [hS, hE] at cPut
  have HE1 := Lib.hid hE1; have HQ1 := Lib.hid hQ; have HL1 := Lib.hid hL1
  have HS := Lib.hid hS; have HE := Lib.hid hE
  have hl1 : L1.length ≤ 4000 := by rw [← hL1]; exact pts_len _
  clear hE1 hP1 hQ hL1 hS hE
  by_cases hE0 : E = 0
  · rcases hcases with hc | hc
    · obtain ⟨he1, hlw, hp1⟩ := hc
      rw [he1, hp1] at cP cE
      unfold diagV U.zero at cP cE
      unfold posV at cE
      have HP := Lib.hid cP
      have HEnd := Lib.hid cE
      have hrun := (U.run_right s.data.toList (by rw [HE1.out]; exact he1))
      rw [HL1.out, HQ1.out, size_list] at hrun
      obtain ⟨hrun, hs4⟩ := hrun
      have HBD := Lib.hid (fun i (hi : i < L1.length) => (U.run_bd _ _ _ _ 0 hrun U.bd_start).2 _ (List.getElem_mem hi))
      have HRun := Lib.hid hrun
      clear cP cE hlw hrun he1 hp1
      have hput := HE.out
      have hokz : U.okL zs = true ∧ (U.encL zs).length ≤ 4000 ∧ S = ⟨(U.encL zs).toArray⟩ := by
        have hput' : U.putE zs = 0 := by rw [hput]; exact hE0
        have hS := HS.out
        unfold U.putE at hput'
        unfold U.putB at hS
        by_cases ho : U.okL zs = true
        · rw [if_pos ho] at hput' hS
          by_cases h4 : 4000 < (U.encL zs).length
          · rw [if_pos h4] at hput'; cases hput'
          · rw [if_neg h4] at hS; exact ⟨ho, by omega, hS.symm⟩
        · rw [if_neg ho] at hput'; cases hput'
      obtain ⟨ho, h4, hSe⟩ := hokz
      obtain ⟨M, qM, hrM, hmM⟩ := U.run_put zs U.start ho
      have hSl : S.data.toList = U.encL zs := by rw [hSe]
      have hSs : S.size ≤ 4000 := by rw [← size_list, hSl]; exact h4
      obtain ⟨t1, t2, t3, _⟩ := U.right_tells h4 hrM
      have cM := fun W hT2 h => Points_any S W (by unfold maxLen; omega) hT2 h
      rw [hSl, t1, t2, t3] at cM
      unfold diagV U.zero at cM
      have hMl : M.length = zs.length := by rw [← hmM]; simp
      have HMM := Lib.hid hmM
      have HM := Lib.hid cM
      have HML := Lib.hid hMl
      have hpu := cPut
      rw [hE0] at hpu
      have HPu := Lib.hid hpu
      obtain ⟨ov, cv, hvv⟩ := hrow.slice
      subst hvv
      have HRow := Lib.hid hrow
      clear hput ho h4 hSe hrM hSl hSs t1 t2 t3 cM hMl hmM hpu cPut hrow hE0
      go_enter Tryd.func5, Tryd.ntmps5
      go_wp2_with fail
      refine ck.mono ?_
      rintro e w1 ⟨rfl, hb1⟩
      have s1 := hb1.size
      go_wp2_with fail
      refine (HPu.out _ hb1).mono ?_
      rintro e w2 ⟨rfl, hb2⟩
      have y2 := below_call hb1 hb2
      have s2 := hb2.size
      go_wp2_with fail
      refine (HM.out _ (tabs_below w.heap.size HT.out y2 h2) (by omega)).mono ?_
      rintro e w3 ⟨v3, rfl, hb3, own3⟩
      have y3 := below_call y2 hb3
      have s3 := hb3.size
      have row3 := Row.own own3 (Nat.le_refl _)
      clear own3
      rw [HML.out] at row3
      obtain ⟨o3, c3, hv3⟩ := row3.slice
      subst hv3
      have HR3 := Lib.hid row3
      clear row3
      go_wp2_with fail
      obtain ⟨w4, hw4⟩ : ∃ W, w3.alloc (.cells #[.int .i64 0, .int .i64 0, .int .i64 0, .int .i64 0] 28) = W := ⟨_, rfl⟩
      have k4 : Below w3.heap.size w3 w4 := by rw [← hw4]; exact (Below.refl _ _).alloc (Nat.le_refl _) _
      have y4 := below_call y3 k4
      rw [hw4]
      clear hw4
      go_loopw [9, 53] (fun _ u wr => ∃ i : Nat, u = .int .i64 i ∧ i ≤ zs.length ∧ ∃ q, wr = w4.drewN q) (fun _ u _ => zs.length - (intOf u).toNat)
      case atStart => exact ⟨0, rfl, Nat.zero_le _, 0, rfl⟩
      case round =>
        obtain ⟨i, rfl, hi, q, rfl⟩ := hrel
        by_cases hlt : i < zs.length
        · have hlt' : (i : Int) < (zs.length : Int) := by omega
          have hiM : i < M.length := by rw [HML.out]; exact hlt
          have hr3 := HR3.out
          rw [← HML.out] at hr3
          obtain ⟨b6, o6, c6, hv6, hb6B, hc6⟩ := row_pts hr3 (by omega)
          rw [HML.out] at hv6
          simp only [Value.slice.injEq, true_and] at hv6
          obtain ⟨rfl, rfl⟩ := hv6
          obtain ⟨x0, _, _, _⟩ := hc6 i hiM
          have hxz : (M[i]'hiM).r = zs[i]'hlt := by have := HMM.out; subst this; simp
          rw [hxz] at x0
          have e0 := (k4.cell (p := ⟨b6, o6 + i * 4, none⟩) hb6B).trans x0
          rcases HRow.out.2.2 with ⟨hz, _⟩ | ⟨bz, oz, cz, hvz, hbz, _, hxz2⟩
          · omega
          · simp only [Value.slice.injEq, true_and] at hvz
            obtain ⟨rfl, rfl⟩ := hvz
            have g0 := (y4.cell (p := ⟨bz, oz + i, none⟩) hbz).trans (row_i32 hxz2 i hlt)
            obtain ⟨z, hz⟩ : ∃ z, zs[i]'hlt = z := ⟨_, rfl⟩
            rw [hz] at e0 g0
            clear hxz hz hc6 hr3 x0 hxz2
            have hi0' : (0 : Int) ≤ (i : Int) := by omega
            go_wp2
            go_quiet (fail)
            go_wp2
            go_roundw
            case rel => exact ⟨i + 1, by go_num, by omega, _, rfl⟩
            case measure => simp [intOf]; omega
        · have hlt' : ¬ ((i : Int) < (zs.length : Int)) := by omega
          go_wp2_with fail
          obtain ⟨wS, hwS⟩ : ∃ W, w4.drewN q = W := ⟨_, rfl⟩
          have yS : Below w.heap.size w wS := by rw [← hwS]; exact below_drewN y4 _
          rw [hwS]
          clear hwS
          refine (HP.out _ (tabs_below w.heap.size HT.out yS h2) (by have := yS.size; omega)).mono ?_
          rintro e wa ⟨va, rfl, hba, owna⟩
          have ya := below_call yS hba
          have sa := hba.size
          have sS := yS.size
          have rowa := Row.own owna (Nat.le_refl _)
          obtain ⟨oa, ca, hva⟩ := rowa.slice
          subst hva
          clear owna
          go_wp2_with fail
          obtain ⟨w0, hw0⟩ : ∃ W, wa.alloc (.cells #[.int .i64 0, .int .i64 0, .int .i64 0, .int .i64 0] 28) = W := ⟨_, rfl⟩
          have k0 : Below wa.heap.size wa w0 := by rw [← hw0]; exact (Below.refl _ _).alloc (Nat.le_refl _) _
          have s0 : wa.heap.size + 1 ≤ w0.heap.size := by rw [← hw0]; simp
          have s0b : w0.heap.size ≤ wa.heap.size + 1 := by rw [← hw0]; simp
          have d0 : Blk w0 wa.heap.size #[.int .i64 0, .int .i64 0, .int .i64 0, .int .i64 0] 28 := by rw [← hw0]; exact Blk.new _ _ _ _ rfl
          have y0 : Below w.heap.size w w0 := below_call ya k0
          have r0 : Row w0 wa.heap.size 4 (.slice oa L1.length ca) L1.length (ptsCells L1) := rowa.below k0
          have HR0 := Lib.hid r0
          clear r0 rowa
          rw [hw0]
          clear hw0
          go_loopw [12, 81] (fun bk u wr => ∃ i : Nat, u = .int .i64 i ∧ i ≤ L1.length ∧ Blk wr (wa.heap.size + 1) #[.int .i64 (U.placeAt L1 Q i).a, .int .i64 (U.placeAt L1 Q i).l, .int .i64 (U.placeAt L1 Q i).c] 26 ∧ wr.ownsRow (wa.heap.size + 2) 21 1 bk i (i32Cells ((L1.map (·.r)).take i)) ∧ Below (wa.heap.size + 1) w0 wr) (fun _ u _ => L1.length - (intOf u).toNat)
          case atStart =>
            refine ⟨0, rfl, Nat.zero_le _, ?_, World.ownsRow_nil _ _ _ _, (Below.refl _ _).alloc s0 _⟩
            rw [U.place_zero L1 _ _ _ HRun.out]
            exact Blk.new _ _ _ _ (by omega)
          case round =>
            obtain ⟨i, rfl, hi, hat, hown, hbel⟩ := hrel
            have hatl := hat.lt
            by_cases hlt : i < L1.length
            · have hlt' : (i : Int) < (L1.length : Int) := by omega
              obtain ⟨b6, o6, c6, hv6, hb6B, hc6⟩ := row_pts HR0.out (by omega)
              simp only [Value.slice.injEq, true_and] at hv6
              obtain ⟨rfl, rfl⟩ := hv6
              obtain ⟨x0, x1, x2', x3'⟩ := hc6 i hlt
              obtain ⟨hpn, hv⟩ := U.place_next L1 _ _ _ i hlt HRun.out
              have hbd := HBD.out i hlt
              rw [U.placeAt_lt L1 Q i hlt] at hat hpn
              obtain ⟨x, hx⟩ : ∃ x, L1[i]'hlt = x := ⟨_, rfl⟩
              have hsnoc : (L1.map (·.r)).take (i + 1) = (L1.map (·.r)).take i ++ [x.r] := by rw [List.take_add_one, List.getElem?_map, List.getElem?_eq_getElem hlt, hx]; rfl
              rw [hx] at x0 x1 x2' x3' hpn hv hat hbd
              have e0 := (hbel.cell (p := ⟨b6, o6 + i * 4, none⟩) (show b6 < _ by omega)).trans x0
              have e1 := (hbel.cell (p := ⟨b6, o6 + i * 4 + 1, none⟩) (show b6 < _ by omega)).trans x1
              have e2 := (hbel.cell (p := ⟨b6, o6 + i * 4 + 2, none⟩) (show b6 < _ by omega)).trans x2'
              have e3 := (hbel.cell (p := ⟨b6, o6 + i * 4 + 3, none⟩) (show b6 < _ by omega)).trans x3'
              have lb6 : b6 < wr.heap.size := by omega
              obtain ⟨eb, heb⟩ : ∃ eb : ByteArray, (⟨(Lib.encodeRune x.r).toArray⟩ : ByteArray) = eb := ⟨_, rfl⟩
              obtain ⟨z, hz⟩ : ∃ z, (Lib.encodeRune x.r).length = z := ⟨_, rfl⟩
              have hez : eb.size = z := by rw [← heb, ← hz]; simp [ByteArray.size]
              have hzl := U.enc_length x.r
              rw [hz] at hpn hzl
              have cp1 := fun W b hb => put_one x.r W b hb hv
              rw [heb] at cp1
              have hbd2 : 0 ≤ x.p.a ∧ x.p.a ≤ 4000 ∧ 1 ≤ x.p.l ∧ x.p.l ≤ 4001 ∧ 1 ≤ x.p.c ∧ x.p.c ≤ 4001 := by unfold U.Bd at hbd; rw [size_list] at hbd; omega
              clear hbd
              obtain ⟨bd1, bd2, bd3, bd4, bd5, bd6⟩ := hbd2
              have HO := Lib.hid hown
              have HC := Lib.hid cp1
              have HPN := Lib.hid hpn
              have HSN := Lib.hid hsnoc
              have HEZ := Lib.hid hez
              clear x0 x1 x2' x3' hc6 hx hown cp1 hpn hsnoc heb hz hv hez
              go_wp2_with (at_builtin; refine wpList_append_own _ rfl _ _ 37 rfl (wa.heap.size + 2) 21 i0 (.int .i32 0) 1 4 Tryd.underlying37 hi0 hz0 hz1 hz2 rfl (by decide) _ _ _ rfl ((HO.out.alloc _).alloc _) ⟨wr.heap.size + 1, 0, none⟩ 1 1 (i32Cells [x.r]) rfl rfl ?c1 ?c2 ?c3 ?c4 ?c5 ?_)
              case c1 => exact fun j u h => h
              case c2 => intro u hu; simp [i32Cells] at hu; rcases hu with rfl; rfl
              case c3 => unfold maxLen; omega
              case c4 => omega
              case c5 => first | omega | (simp; omega)
              intro v' wb hown' hgrow _
              have hs1 := hgrow.size
              simp only [World.size_alloc] at hs1
              have hne : ∀ k, k < wa.heap.size + 2 → some k ≠ u12.ownBlock := fun k hk e => by have := (HO.out.lt k e.symm).1; omega
              have hne2 : some wr.heap.size ≠ u12.ownBlock := fun e => by have := (HO.out.lt _ e.symm).2; omega
              have atb : Blk wb (wa.heap.size + 1) _ _ := (((hat.alloc _).alloc _)).of (hgrow.block _ (by simp; omega) (hne _ (by omega)))
              have xb : Blk wb wr.heap.size #[.int .i32 x.r, .int .i64 x.p.a, .int .i64 x.p.l, .int .i64 x.p.c] 42 := ((Blk.new wr _ _ _ rfl).alloc _).of (hgrow.block _ (by simp <;> omega) hne2)
              have belb : Below (wa.heap.size + 1) w0 wb := ((hbel.alloc (by omega) _).alloc (by simp; omega) _).grown hgrow (by simp; omega) (fun k hk => by have := (HO.out.lt k hk).1; omega)
              obtain ⟨ob, cb, hvb⟩ := own_slice hown'
              subst hvb
              have HO2 := Lib.hid hown'
              clear hown' hgrow
              have xb0 : wb.cell? ⟨wr.heap.size, 0, none⟩ = some (.int .i32 x.r) := xb.cell 0
              have xb1 : wb.cell? ⟨wr.heap.size, 1, none⟩ = some (.int .i64 x.p.a) := xb.cell 1
              have xb2 : wb.cell? ⟨wr.heap.size, 2, none⟩ = some (.int .i64 x.p.l) := xb.cell 2
              have xb3 : wb.cell? ⟨wr.heap.size, 3, none⟩ = some (.int .i64 x.p.c) := xb.cell 3
              go_wp2_with fail
              refine (HC.out _ _ rfl).mono ?_
              rintro e wc ⟨rfl, hbc⟩
              have sc := hbc.size
              simp only [World.size_alloc] at sc
              have xc := (xb.alloc _).below hbc (by omega)
              have atc := (atb.alloc _).below hbc (by omega)
              have belc : Below (wa.heap.size + 1) w0 wc := (belb.alloc (by omega) _).trans (hbc.mono (by omega))
              have ownc := own_below (HO2.out.alloc _) hbc (by simp)
              have HO3 := Lib.hid ownc
              clear xb0 xb1 xb2 xb3 ownc
              have xc0 : wc.cell? ⟨wr.heap.size, 0, none⟩ = some (.int .i32 x.r) := xc.cell 0
              have xc1 : wc.cell? ⟨wr.heap.size, 1, none⟩ = some (.int .i64 x.p.a) := xc.cell 1
              have xc2 : wc.cell? ⟨wr.heap.size, 2, none⟩ = some (.int .i64 x.p.l) := xc.cell 2
              have xc3 : wc.cell? ⟨wr.heap.size, 3, none⟩ = some (.int .i64 x.p.c) := xc.cell 3
              have ac0 : wc.cell? ⟨wa.heap.size + 1, 0, none⟩ = some (.int .i64 x.p.a) := atc.cell 0
              have ac1 : wc.cell? ⟨wa.heap.size + 1, 1, none⟩ = some (.int .i64 x.p.l) := atc.cell 1
              have ac2 : wc.cell? ⟨wa.heap.size + 1, 2, none⟩ = some (.int .i64 x.p.c) := atc.cell 2
              have f0 := atc.free 0; have f1 := atc.free 1; have f2 := atc.free 2
              have hez := HEZ.out
              obtain ⟨zl1, zl2⟩ := hzl
              by_cases hr10 : x.r = 10
              · have hr10' : (x.r == 10) = true := by rw [beq_iff_eq]; exact hr10
                have hnx : U.placeAt L1 Q (i + 1) = ⟨x.p.a + z, x.p.l + 1, 1⟩ := by rw [HPN.out]; simp only [U.next, if_pos hr10]
                have HNX := Lib.hid hnx
                clear hr10 hnx
                go_wp2
                refine ⟨⟨i + 1, by go_num, by omega, ?_, ?_, ?_⟩, by simp [intOf]; omega⟩
                · rw [HNX.out]; exact (((atc.set 0 _).set 2 _).set 1 _).set 2 _
                · rw [HSN.out]
                  have h0 := HO3.out
                  have e : i32Cells ((L1.map (·.r)).take i ++ [x.r]) = i32Cells ((L1.map (·.r)).take i) ++ i32Cells [x.r] := by simp [i32Cells]
                  rw [e]
                  repeat (with_reducible first | exact h0 | refine ownsRow_setCell_below ?_ (by simp <;> omega) _)
                · repeat (with_reducible first | exact belc | refine Below.setCell ?_ (by simp <;> omega) _)
              · have hr10' : (x.r == 10) = false := by rw [beq_eq_false_iff_ne]; exact hr10
                have hnx : U.placeAt L1 Q (i + 1) = ⟨x.p.a + z, x.p.l, x.p.c + 1⟩ := by rw [HPN.out]; simp only [U.next, if_neg hr10]
                have HNX := Lib.hid hnx
                clear hr10 hnx
                go_wp2
                refine ⟨⟨i + 1, by go_num, by omega, ?_, ?_, ?_⟩, by simp [intOf]; omega⟩
                · rw [HNX.out]; exact (atc.set 0 _).set 2 _
                · rw [HSN.out]
                  have h0 := HO3.out
                  have e : i32Cells ((L1.map (·.r)).take i ++ [x.r]) = i32Cells ((L1.map (·.r)).take i) ++ i32Cells [x.r] := by simp [i32Cells]
                  rw [e]
                  repeat (with_reducible first | exact h0 | refine ownsRow_setCell_below ?_ (by simp <;> omega) _)
                · repeat (with_reducible first | exact belc | refine Below.setCell ?_ (by simp <;> omega) _)
            · obtain rfl : i = L1.length := by omega
              rw [U.placeAt_end] at hat
              rw [List.take_of_length_le (by simp)] at hown
              obtain ⟨ob, cb, hvb⟩ := own_slice hown
              subst hvb
              have rowb := Row.own hown (Nat.le_refl _)
              have hml : (L1.map (·.r)).length = L1.length := by simp
              rw [← hml] at rowb
              have cB := Put_any _ (L1.map (·.r)) wr (by rw [hml]; omega) rowb
              obtain ⟨hb1', hb2'⟩ := U.run_bytes _ _ _ _ HRun.out
              have hne : ¬ 4000 < s.data.toList.length := by rw [size_list]; omega
              have e2 : U.putE (L1.map (·.r)) = 0 := by simp only [U.putE, hb1', hb2', if_true, if_neg hne]
              have e3 : U.putB (L1.map (·.r)) = s := by simp only [U.putB, hb1', hb2', if_true, if_neg hne]
              rw [e2, e3, hml] at cB
              have HB := Lib.hid cB
              clear cB rowb hml hb1' hb2' hne e2 e3 hown
              have yr : Below w.heap.size w wr := y0.trans (hbel.mono (by have := y0.size; omega))
              have sr := hbel.size
              go_wp2_with fail
              refine HB.out.mono ?_
              rintro e wd ⟨rfl, hbd⟩
              have yd := below_call yr hbd
              have sd := hbd.size
              have atd := hat.below hbd hatl
              have dd := (d0.below hbel (by omega)).below hbd (by omega)
              go_wp2_with fail
              refine (HEnd.out _ (tabs_below w.heap.size HT.out yd h2) (by have := yd.size; omega)).mono ?_
              rintro e we ⟨rfl, hbe⟩
              have ye := below_call yd hbe
              have se := hbe.size
              have ate := atd.below hbe (by omega)
              have de := dd.below hbe (by omega)
              have lat : wa.heap.size + 1 < we.heap.size := by omega
              have lde : wa.heap.size < we.heap.size := by omega
              have ae0 : we.cell? ⟨wa.heap.size + 1, 0, none⟩ = some (.int .i64 Q.a) := ate.cell 0
              have ae1 : we.cell? ⟨wa.heap.size + 1, 1, none⟩ = some (.int .i64 Q.l) := ate.cell 1
              have ae2 : we.cell? ⟨wa.heap.size + 1, 2, none⟩ = some (.int .i64 Q.c) := ate.cell 2
              have de0 : we.cell? ⟨wa.heap.size, 0, none⟩ = some (.int .i64 0) := de.cell 0
              have de1 : we.cell? ⟨wa.heap.size, 1, none⟩ = some (.int .i64 0) := de.cell 1
              have de2 : we.cell? ⟨wa.heap.size, 2, none⟩ = some (.int .i64 0) := de.cell 2
              have de3 : we.cell? ⟨wa.heap.size, 3, none⟩ = some (.int .i64 0) := de.cell 3
              have f0 := de.free 0; have f1 := de.free 1; have f2 := de.free 2; have f3 := de.free 3
              go_wp2
              go_ret
              refine ⟨rfl, ?_⟩
              repeat (with_reducible first | exact ye | refine Below.setCell ?_ (by simp <;> omega) _ | refine Below.alloc ?_ (by have := ye.size; simp <;> omega) _)
    · obtain ⟨he1, hl0⟩ := hc
      have he1' : (E1 == 0) = false := by rw [beq_eq_false_iff_ne]; omega
      subst hl0
      unfold diagV at cP
      have HP := Lib.hid cP
      clear cP cE he1
      have hput := HE.out
      have hokz : U.okL zs = true ∧ (U.encL zs).length ≤ 4000 ∧ S = ⟨(U.encL zs).toArray⟩ := by
        have hput' : U.putE zs = 0 := by rw [hput]; exact hE0
        have hS := HS.out
        unfold U.putE at hput'
        unfold U.putB at hS
        by_cases ho : U.okL zs = true
        · rw [if_pos ho] at hput' hS
          by_cases h4 : 4000 < (U.encL zs).length
          · rw [if_pos h4] at hput'; cases hput'
          · rw [if_neg h4] at hS; exact ⟨ho, by omega, hS.symm⟩
        · rw [if_neg ho] at hput'; cases hput'
      obtain ⟨ho, h4, hSe⟩ := hokz
      obtain ⟨M, qM, hrM, hmM⟩ := U.run_put zs U.start ho
      have hSl : S.data.toList = U.encL zs := by rw [hSe]
      have hSs : S.size ≤ 4000 := by rw [← size_list, hSl]; exact h4
      obtain ⟨t1, t2, t3, _⟩ := U.right_tells h4 hrM
      have cM := fun W hT2 h => Points_any S W (by unfold maxLen; omega) hT2 h
      rw [hSl, t1, t2, t3] at cM
      unfold diagV U.zero at cM
      have hMl : M.length = zs.length := by rw [← hmM]; simp
      have HMM := Lib.hid hmM
      have HM := Lib.hid cM
      have HML := Lib.hid hMl
      have hpu := cPut
      rw [hE0] at hpu
      have HPu := Lib.hid hpu
      obtain ⟨ov, cv, hvv⟩ := hrow.slice
      subst hvv
      have HRow := Lib.hid hrow
      clear hput ho h4 hSe hrM hSl hSs t1 t2 t3 cM hMl hmM hpu cPut hrow hE0
      go_enter Tryd.func5, Tryd.ntmps5
      go_wp2_with fail
      refine ck.mono ?_
      rintro e w1 ⟨rfl, hb1⟩
      have s1 := hb1.size
      go_wp2_with fail
      refine (HPu.out _ hb1).mono ?_
      rintro e w2 ⟨rfl, hb2⟩
      have y2 := below_call hb1 hb2
      have s2 := hb2.size
      go_wp2_with fail
      refine (HM.out _ (tabs_below w.heap.size HT.out y2 h2) (by omega)).mono ?_
      rintro e w3 ⟨v3, rfl, hb3, own3⟩
      have y3 := below_call y2 hb3
      have s3 := hb3.size
      have row3 := Row.own own3 (Nat.le_refl _)
      clear own3
      rw [HML.out] at row3
      obtain ⟨o3, c3, hv3⟩ := row3.slice
      subst hv3
      have HR3 := Lib.hid row3
      clear row3
      go_wp2_with fail
      obtain ⟨w4, hw4⟩ : ∃ W, w3.alloc (.cells #[.int .i64 0, .int .i64 0, .int .i64 0, .int .i64 0] 28) = W := ⟨_, rfl⟩
      have k4 : Below w3.heap.size w3 w4 := by rw [← hw4]; exact (Below.refl _ _).alloc (Nat.le_refl _) _
      have y4 := below_call y3 k4
      rw [hw4]
      clear hw4
      go_loopw [9, 53] (fun _ u wr => ∃ i : Nat, u = .int .i64 i ∧ i ≤ zs.length ∧ ∃ q, wr = w4.drewN q) (fun _ u _ => zs.length - (intOf u).toNat)
      case atStart => exact ⟨0, rfl, Nat.zero_le _, 0, rfl⟩
      case round =>
        obtain ⟨i, rfl, hi, q, rfl⟩ := hrel
        by_cases hlt : i < zs.length
        · have hlt' : (i : Int) < (zs.length : Int) := by omega
          have hiM : i < M.length := by rw [HML.out]; exact hlt
          have hr3 := HR3.out
          rw [← HML.out] at hr3
          obtain ⟨b6, o6, c6, hv6, hb6B, hc6⟩ := row_pts hr3 (by omega)
          rw [HML.out] at hv6
          simp only [Value.slice.injEq, true_and] at hv6
          obtain ⟨rfl, rfl⟩ := hv6
          obtain ⟨x0, _, _, _⟩ := hc6 i hiM
          have hxz : (M[i]'hiM).r = zs[i]'hlt := by have := HMM.out; subst this; simp
          rw [hxz] at x0
          have e0 := (k4.cell (p := ⟨b6, o6 + i * 4, none⟩) hb6B).trans x0
          rcases HRow.out.2.2 with ⟨hz, _⟩ | ⟨bz, oz, cz, hvz, hbz, _, hxz2⟩
          · omega
          · simp only [Value.slice.injEq, true_and] at hvz
            obtain ⟨rfl, rfl⟩ := hvz
            have g0 := (y4.cell (p := ⟨bz, oz + i, none⟩) hbz).trans (row_i32 hxz2 i hlt)
            obtain ⟨z, hz⟩ : ∃ z, zs[i]'hlt = z := ⟨_, rfl⟩
            rw [hz] at e0 g0
            clear hxz hz hc6 hr3 x0 hxz2
            have hi0' : (0 : Int) ≤ (i : Int) := by omega
            go_wp2
            go_quiet (fail)
            go_wp2
            go_roundw
            case rel => exact ⟨i + 1, by go_num, by omega, _, rfl⟩
            case measure => simp [intOf]; omega
        · have hlt' : ¬ ((i : Int) < (zs.length : Int)) := by omega
          go_wp2_with fail
          obtain ⟨wS, hwS⟩ : ∃ W, w4.drewN q = W := ⟨_, rfl⟩
          have yS : Below w.heap.size w wS := by rw [← hwS]; exact below_drewN y4 _
          rw [hwS]
          clear hwS
          refine (HP.out _ (tabs_below w.heap.size HT.out yS h2) (by have := yS.size; omega)).mono ?_
          rintro e wa ⟨va, rfl, hba, owna⟩
          have ya := below_call yS hba
          have sa := hba.size
          have sS := yS.size
          obtain ⟨oa, ca, hva⟩ := own_slice owna
          subst hva
          go_wp2
          go_ret
          exact ⟨rfl, ya.alloc ya.size _⟩
  · rcases hcases with hc | hc
    · obtain ⟨he1, hlw, hp1⟩ := hc
      rw [he1, hp1] at cP cE
      unfold diagV U.zero at cP cE
      unfold posV at cE
      have HP := Lib.hid cP
      have HEnd := Lib.hid cE
      have hrun := (U.run_right s.data.toList (by rw [HE1.out]; exact he1))
      rw [HL1.out, HQ1.out, size_list] at hrun
      obtain ⟨hrun, hs4⟩ := hrun
      have HBD := Lib.hid (fun i (hi : i < L1.length) => (U.run_bd _ _ _ _ 0 hrun U.bd_start).2 _ (List.getElem_mem hi))
      have HRun := Lib.hid hrun
      clear cP cE hlw hrun he1 hp1
      have hE0' : (E == 0) = false := by rw [beq_eq_false_iff_ne]; exact hE0
      have HPu := Lib.hid cPut
      obtain ⟨ov, cv, hvv⟩ := hrow.slice
      subst hvv
      clear cPut hrow hE0
      go_enter Tryd.func5, Tryd.ntmps5
      go_wp2_with fail
      refine ck.mono ?_
      rintro e w1 ⟨rfl, hb1⟩
      have s1 := hb1.size
      go_wp2_with fail
      refine (HPu.out _ hb1).mono ?_
      rintro e wS ⟨rfl, hb2⟩
      have yS := below_call hb1 hb2
      go_wp2_with fail
      refine (HP.out _ (tabs_below w.heap.size HT.out yS h2) (by have := yS.size; omega)).mono ?_
      rintro e wa ⟨va, rfl, hba, owna⟩
      have ya := below_call yS hba
      have sa := hba.size
      have sS := yS.size
      have rowa := Row.own owna (Nat.le_refl _)
      obtain ⟨oa, ca, hva⟩ := rowa.slice
      subst hva
      clear owna
      go_wp2_with fail
      obtain ⟨w0, hw0⟩ : ∃ W, wa.alloc (.cells #[.int .i64 0, .int .i64 0, .int .i64 0, .int .i64 0] 28) = W := ⟨_, rfl⟩
      have k0 : Below wa.heap.size wa w0 := by rw [← hw0]; exact (Below.refl _ _).alloc (Nat.le_refl _) _
      have s0 : wa.heap.size + 1 ≤ w0.heap.size := by rw [← hw0]; simp
      have s0b : w0.heap.size ≤ wa.heap.size + 1 := by rw [← hw0]; simp
      have d0 : Blk w0 wa.heap.size #[.int .i64 0, .int .i64 0, .int .i64 0, .int .i64 0] 28 := by rw [← hw0]; exact Blk.new _ _ _ _ rfl
      have y0 : Below w.heap.size w w0 := below_call ya k0
      have r0 : Row w0 wa.heap.size 4 (.slice oa L1.length ca) L1.length (ptsCells L1) := rowa.below k0
      have HR0 := Lib.hid r0
      clear r0 rowa
      rw [hw0]
      clear hw0
      go_loopw [12, 81] (fun bk u wr => ∃ i : Nat, u = .int .i64 i ∧ i ≤ L1.length ∧ Blk wr (wa.heap.size + 1) #[.int .i64 (U.placeAt L1 Q i).a, .int .i64 (U.placeAt L1 Q i).l, .int .i64 (U.placeAt L1 Q i).c] 26 ∧ wr.ownsRow (wa.heap.size + 2) 21 1 bk i (i32Cells ((L1.map (·.r)).take i)) ∧ Below (wa.heap.size + 1) w0 wr) (fun _ u _ => L1.length - (intOf u).toNat)
      case atStart =>
        refine ⟨0, rfl, Nat.zero_le _, ?_, World.ownsRow_nil _ _ _ _, (Below.refl _ _).alloc s0 _⟩
        rw [U.place_zero L1 _ _ _ HRun.out]
        exact Blk.new _ _ _ _ (by omega)
      case round =>
        obtain ⟨i, rfl, hi, hat, hown, hbel⟩ := hrel
        have hatl := hat.lt
        by_cases hlt : i < L1.length
        · have hlt' : (i : Int) < (L1.length : Int) := by omega
          obtain ⟨b6, o6, c6, hv6, hb6B, hc6⟩ := row_pts HR0.out (by omega)
          simp only [Value.slice.injEq, true_and] at hv6
          obtain ⟨rfl, rfl⟩ := hv6
          obtain ⟨x0, x1, x2', x3'⟩ := hc6 i hlt
          obtain ⟨hpn, hv⟩ := U.place_next L1 _ _ _ i hlt HRun.out
          have hbd := HBD.out i hlt
          rw [U.placeAt_lt L1 Q i hlt] at hat hpn
          obtain ⟨x, hx⟩ : ∃ x, L1[i]'hlt = x := ⟨_, rfl⟩
          have hsnoc : (L1.map (·.r)).take (i + 1) = (L1.map (·.r)).take i ++ [x.r] := by rw [List.take_add_one, List.getElem?_map, List.getElem?_eq_getElem hlt, hx]; rfl
          rw [hx] at x0 x1 x2' x3' hpn hv hat hbd
          have e0 := (hbel.cell (p := ⟨b6, o6 + i * 4, none⟩) (show b6 < _ by omega)).trans x0
          have e1 := (hbel.cell (p := ⟨b6, o6 + i * 4 + 1, none⟩) (show b6 < _ by omega)).trans x1
          have e2 := (hbel.cell (p := ⟨b6, o6 + i * 4 + 2, none⟩) (show b6 < _ by omega)).trans x2'
          have e3 := (hbel.cell (p := ⟨b6, o6 + i * 4 + 3, none⟩) (show b6 < _ by omega)).trans x3'
          have lb6 : b6 < wr.heap.size := by omega
          obtain ⟨eb, heb⟩ : ∃ eb : ByteArray, (⟨(Lib.encodeRune x.r).toArray⟩ : ByteArray) = eb := ⟨_, rfl⟩
          obtain ⟨z, hz⟩ : ∃ z, (Lib.encodeRune x.r).length = z := ⟨_, rfl⟩
          have hez : eb.size = z := by rw [← heb, ← hz]; simp [ByteArray.size]
          have hzl := U.enc_length x.r
          rw [hz] at hpn hzl
          have cp1 := fun W b hb => put_one x.r W b hb hv
          rw [heb] at cp1
          have hbd2 : 0 ≤ x.p.a ∧ x.p.a ≤ 4000 ∧ 1 ≤ x.p.l ∧ x.p.l ≤ 4001 ∧ 1 ≤ x.p.c ∧ x.p.c ≤ 4001 := by unfold U.Bd at hbd; rw [size_list] at hbd; omega
          clear hbd
          obtain ⟨bd1, bd2, bd3, bd4, bd5, bd6⟩ := hbd2
          have HO := Lib.hid hown
          have HC := Lib.hid cp1
          have HPN := Lib.hid hpn
          have HSN := Lib.hid hsnoc
          have HEZ := Lib.hid hez
          clear x0 x1 x2' x3' hc6 hx hown cp1 hpn hsnoc heb hz hv hez
          go_wp2_with (at_builtin; refine wpList_append_own _ rfl _ _ 37 rfl (wa.heap.size + 2) 21 i0 (.int .i32 0) 1 4 Tryd.underlying37 hi0 hz0 hz1 hz2 rfl (by decide) _ _ _ rfl ((HO.out.alloc _).alloc _) ⟨wr.heap.size + 1, 0, none⟩ 1 1 (i32Cells [x.r]) rfl rfl ?c1 ?c2 ?c3 ?c4 ?c5 ?_)
          case c1 => exact fun j u h => h
          case c2 => intro u hu; simp [i32Cells] at hu; rcases hu with rfl; rfl
          case c3 => unfold maxLen; omega
          case c4 => omega
          case c5 => first | omega | (simp; omega)
          intro v' wb hown' hgrow _
          have hs1 := hgrow.size
          simp only [World.size_alloc] at hs1
          have hne : ∀ k, k < wa.heap.size + 2 → some k ≠ u12.ownBlock := fun k hk e => by have := (HO.out.lt k e.symm).1; omega
          have hne2 : some wr.heap.size ≠ u12.ownBlock := fun e => by have := (HO.out.lt _ e.symm).2; omega
          have atb : Blk wb (wa.heap.size + 1) _ _ := (((hat.alloc _).alloc _)).of (hgrow.block _ (by simp; omega) (hne _ (by omega)))
          have xb : Blk wb wr.heap.size #[.int .i32 x.r, .int .i64 x.p.a, .int .i64 x.p.l, .int .i64 x.p.c] 42 := ((Blk.new wr _ _ _ rfl).alloc _).of (hgrow.block _ (by simp <;> omega) hne2)
          have belb : Below (wa.heap.size + 1) w0 wb := ((hbel.alloc (by omega) _).alloc (by simp; omega) _).grown hgrow (by simp; omega) (fun k hk => by have := (HO.out.lt k hk).1; omega)
          obtain ⟨ob, cb, hvb⟩ := own_slice hown'
          subst hvb
          have HO2 := Lib.hid hown'
          clear hown' hgrow
          have xb0 : wb.cell? ⟨wr.heap.size, 0, none⟩ = some (.int .i32 x.r) := xb.cell 0
          have xb1 : wb.cell? ⟨wr.heap.size, 1, none⟩ = some (.int .i64 x.p.a) := xb.cell 1
          have xb2 : wb.cell? ⟨wr.heap.size, 2, none⟩ = some (.int .i64 x.p.l) := xb.cell 2
          have xb3 : wb.cell? ⟨wr.heap.size, 3, none⟩ = some (.int .i64 x.p.c) := xb.cell 3
          go_wp2_with fail
          refine (HC.out _ _ rfl).mono ?_
          rintro e wc ⟨rfl, hbc⟩
          have sc := hbc.size
          simp only [World.size_alloc] at sc
          have xc := (xb.alloc _).below hbc (by omega)
          have atc := (atb.alloc _).below hbc (by omega)
          have belc : Below (wa.heap.size + 1) w0 wc := (belb.alloc (by omega) _).trans (hbc.mono (by omega))
          have ownc := own_below (HO2.out.alloc _) hbc (by simp)
          have HO3 := Lib.hid ownc
          clear xb0 xb1 xb2 xb3 ownc
          have xc0 : wc.cell? ⟨wr.heap.size, 0, none⟩ = some (.int .i32 x.r) := xc.cell 0
          have xc1 : wc.cell? ⟨wr.heap.size, 1, none⟩ = some (.int .i64 x.p.a) := xc.cell 1
          have xc2 : wc.cell? ⟨wr.heap.size, 2, none⟩ = some (.int .i64 x.p.l) := xc.cell 2
          have xc3 : wc.cell? ⟨wr.heap.size, 3, none⟩ = some (.int .i64 x.p.c) := xc.cell 3
          have ac0 : wc.cell? ⟨wa.heap.size + 1, 0, none⟩ = some (.int .i64 x.p.a) := atc.cell 0
          have ac1 : wc.cell? ⟨wa.heap.size + 1, 1, none⟩ = some (.int .i64 x.p.l) := atc.cell 1
          have ac2 : wc.cell? ⟨wa.heap.size + 1, 2, none⟩ = some (.int .i64 x.p.c) := atc.cell 2
          have f0 := atc.free 0; have f1 := atc.free 1; have f2 := atc.free 2
          have hez := HEZ.out
          obtain ⟨zl1, zl2⟩ := hzl
          by_cases hr10 : x.r = 10
          · have hr10' : (x.r == 10) = true := by rw [beq_iff_eq]; exact hr10
            have hnx : U.placeAt L1 Q (i + 1) = ⟨x.p.a + z, x.p.l + 1, 1⟩ := by rw [HPN.out]; simp only [U.next, if_pos hr10]
            have HNX := Lib.hid hnx
            clear hr10 hnx
            go_wp2
            refine ⟨⟨i + 1, by go_num, by omega, ?_, ?_, ?_⟩, by simp [intOf]; omega⟩
            · rw [HNX.out]; exact (((atc.set 0 _).set 2 _).set 1 _).set 2 _
            · rw [HSN.out]
              have h0 := HO3.out
              have e : i32Cells ((L1.map (·.r)).take i ++ [x.r]) = i32Cells ((L1.map (·.r)).take i) ++ i32Cells [x.r] := by simp [i32Cells]
              rw [e]
              repeat (with_reducible first | exact h0 | refine ownsRow_setCell_below ?_ (by simp <;> omega) _)
            · repeat (with_reducible first | exact belc | refine Below.setCell ?_ (by simp <;> omega) _)
          · have hr10' : (x.r == 10) = false := by rw [beq_eq_false_iff_ne]; exact hr10
            have hnx : U.placeAt L1 Q (i + 1) = ⟨x.p.a + z, x.p.l, x.p.c + 1⟩ := by rw [HPN.out]; simp only [U.next, if_neg hr10]
            have HNX := Lib.hid hnx
            clear hr10 hnx
            go_wp2
            refine ⟨⟨i + 1, by go_num, by omega, ?_, ?_, ?_⟩, by simp [intOf]; omega⟩
            · rw [HNX.out]; exact (atc.set 0 _).set 2 _
            · rw [HSN.out]
              have h0 := HO3.out
              have e : i32Cells ((L1.map (·.r)).take i ++ [x.r]) = i32Cells ((L1.map (·.r)).take i) ++ i32Cells [x.r] := by simp [i32Cells]
              rw [e]
              repeat (with_reducible first | exact h0 | refine ownsRow_setCell_below ?_ (by simp <;> omega) _)
            · repeat (with_reducible first | exact belc | refine Below.setCell ?_ (by simp <;> omega) _)
        · obtain rfl : i = L1.length := by omega
          rw [U.placeAt_end] at hat
          rw [List.take_of_length_le (by simp)] at hown
          obtain ⟨ob, cb, hvb⟩ := own_slice hown
          subst hvb
          have rowb := Row.own hown (Nat.le_refl _)
          have hml : (L1.map (·.r)).length = L1.length := by simp
          rw [← hml] at rowb
          have cB := Put_any _ (L1.map (·.r)) wr (by rw [hml]; omega) rowb
          obtain ⟨hb1', hb2'⟩ := U.run_bytes _ _ _ _ HRun.out
          have hne : ¬ 4000 < s.data.toList.length := by rw [size_list]; omega
          have e2 : U.putE (L1.map (·.r)) = 0 := by simp only [U.putE, hb1', hb2', if_true, if_neg hne]
          have e3 : U.putB (L1.map (·.r)) = s := by simp only [U.putB, hb1', hb2', if_true, if_neg hne]
          rw [e2, e3, hml] at cB
          have HB := Lib.hid cB
          clear cB rowb hml hb1' hb2' hne e2 e3 hown
          have yr : Below w.heap.size w wr := y0.trans (hbel.mono (by have := y0.size; omega))
          have sr := hbel.size
          go_wp2_with fail
          refine HB.out.mono ?_
          rintro e wd ⟨rfl, hbd⟩
          have yd := below_call yr hbd
          have sd := hbd.size
          have atd := hat.below hbd hatl
          have dd := (d0.below hbel (by omega)).below hbd (by omega)
          go_wp2_with fail
          refine (HEnd.out _ (tabs_below w.heap.size HT.out yd h2) (by have := yd.size; omega)).mono ?_
          rintro e we ⟨rfl, hbe⟩
          have ye := below_call yd hbe
          have se := hbe.size
          have ate := atd.below hbe (by omega)
          have de := dd.below hbe (by omega)
          have lat : wa.heap.size + 1 < we.heap.size := by omega
          have lde : wa.heap.size < we.heap.size := by omega
          have ae0 : we.cell? ⟨wa.heap.size + 1, 0, none⟩ = some (.int .i64 Q.a) := ate.cell 0
          have ae1 : we.cell? ⟨wa.heap.size + 1, 1, none⟩ = some (.int .i64 Q.l) := ate.cell 1
          have ae2 : we.cell? ⟨wa.heap.size + 1, 2, none⟩ = some (.int .i64 Q.c) := ate.cell 2
          have de0 : we.cell? ⟨wa.heap.size, 0, none⟩ = some (.int .i64 0) := de.cell 0
          have de1 : we.cell? ⟨wa.heap.size, 1, none⟩ = some (.int .i64 0) := de.cell 1
          have de2 : we.cell? ⟨wa.heap.size, 2, none⟩ = some (.int .i64 0) := de.cell 2
          have de3 : we.cell? ⟨wa.heap.size, 3, none⟩ = some (.int .i64 0) := de.cell 3
          have f0 := de.free 0; have f1 := de.free 1; have f2 := de.free 2; have f3 := de.free 3
          go_wp2
          go_ret
          refine ⟨rfl, ?_⟩
          repeat (with_reducible first | exact ye | refine Below.setCell ?_ (by simp <;> omega) _ | refine Below.alloc ?_ (by have := ye.size; simp <;> omega) _)
    · obtain ⟨he1, hl0⟩ := hc
      have he1' : (E1 == 0) = false := by rw [beq_eq_false_iff_ne]; omega
      subst hl0
      unfold diagV at cP
      have HP := Lib.hid cP
      clear cP cE he1
      have hE0' : (E == 0) = false := by rw [beq_eq_false_iff_ne]; exact hE0
      have HPu := Lib.hid cPut
      obtain ⟨ov, cv, hvv⟩ := hrow.slice
      subst hvv
      clear cPut hrow hE0
      go_enter Tryd.func5, Tryd.ntmps5
      go_wp2_with fail
      refine ck.mono ?_
      rintro e w1 ⟨rfl, hb1⟩
      have s1 := hb1.size
      go_wp2_with fail
      refine (HPu.out _ hb1).mono ?_
      rintro e wS ⟨rfl, hb2⟩
      have yS := below_call hb1 hb2
      go_wp2_with fail
      refine (HP.out _ (tabs_below w.heap.size HT.out yS h2) (by have := yS.size; omega)).mono ?_
      rintro e wa ⟨va, rfl, hba, owna⟩
      have ya := below_call yS hba
      have sa := hba.size
      have sS := yS.size
      obtain ⟨oa, ca, hva⟩ := own_slice owna
      subst hva
      go_wp2
      go_ret
      exact ⟨rfl, ya.alloc ya.size _⟩
end Go.Proofs.YthhphmhddeoagaaDoor
