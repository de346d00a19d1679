/- The walk of LexTail. -/
import Derived.Test.YtaojgcioljcpmaaGreatDoorKnB
import Derived.Test.YtaojgcioljcpmaaGreatDoorLexS
namespace Go.Proofs.YtaojgcioljcpmaaGreatDoor
open Go.RowKit

theorem tok_fits (s : List UInt8) (ts : List T.Tok) (z : U.Pos) (h : T.tokens s = (ts, 0, z)) : ts.length ≤ 4000 ∧ ∀ t ∈ ts, Fits t.p := by
  obtain ⟨hE, hT, hz⟩ := tokens_zero s (by rw [h])
  obtain ⟨hs, _, hp⟩ := eE_zero s hE
  rw [h] at hz hT
  simp only at hz
  subst hz
  have hl := (pts_small s).1
  have key : ∀ n (hn : n < ts.length), ∃ i, ∃ (hi : i < (U.pts s).length), n ≤ i ∧ ((U.pts s)[i]'hi).p = (ts[n]'hn).p := by
    intro n hn
    obtain ⟨i, hi, h1, h2, _⟩ := toks_nth n _ _ ts hT.symm hn
    exact ⟨i, hi, h1, h2⟩
  refine ⟨?_, fun t ht => ?_⟩
  · rcases Nat.eq_zero_or_pos ts.length with h0 | h0
    · omega
    · obtain ⟨i, hi, h1, _⟩ := key (ts.length - 1) (by omega)
      omega
  · obtain ⟨n, hn, rfl⟩ := List.getElem_of_mem ht
    obtain ⟨i, hi, _, h2⟩ := key n hn
    rw [← h2]
    exact pts_fits s _ (List.getElem_mem hi)
theorem toksCells_len (l : List T.Tok) : (toksCells l).length = l.length * 6 := by
  induction l with
  | nil => rfl
  | cons x l ih =>
    have : toksCells (x :: l) = tokCells x ++ toksCells l := rfl
    rw [this, List.length_append, ih, List.length_cons]
    show 6 + l.length * 6 = _
    omega
theorem toksCells_drop (l : List T.Tok) : ∀ (i j : Nat) (u : Value), (toksCells (l.drop i))[j]? = some u → (toksCells l)[i * 6 + j]? = some u := by
  induction l with
  | nil => intro i j u h; simp [toksCells] at h
  | cons x l ih =>
    intro i j u h
    have e : toksCells (x :: l) = tokCells x ++ toksCells l := rfl
    have hl : (tokCells x).length = 6 := rfl
    cases i with
    | zero => simpa using h
    | succ i =>
      rw [e, List.getElem?_append_right (by omega), hl, show (i + 1) * 6 + j - 6 = i * 6 + j by omega]
      exact ih i j u h
theorem Blk.drewN {w : World} {b : Nat} {cs : Array Value} {t : TypeId} (h : Blk w b cs t) (n : Nat) : Blk (w.drewN n) b cs t := h
/-- a slice of tokens from a place on -/
theorem Row.from {w : World} {B g off n c : Nat} {l : List T.Tok} (h : Row w B 6 (.slice (some ⟨g, off, none⟩) n c) n (toksCells l)) (hn : l.length = n) (i : Nat) (hi : i < n) :
    Row w B 6 (.slice (some ⟨g, off + i * 6, none⟩) (n - i) (c - i)) (n - i) (toksCells (l.drop i)) := by
  obtain ⟨h1, h2, h3⟩ := h
  rcases h3 with ⟨h0, _⟩ | ⟨g', off', cap', hv, hb, hc, hx⟩
  · omega
  · injection hv with e1 e2 e3
    injection e1 with e1
    injection e1 with e4 e5
    subst e4 e5 e3
    refine ⟨by rw [toksCells_len, List.length_drop, hn], by omega, .inr ⟨g, off + i * 6, c - i, rfl, hb, by omega, fun j u hj => ?_⟩⟩
    rw [Nat.add_assoc]
    exact hx _ u (toksCells_drop l i j u hj)

set_option maxRecDepth 50000 in
set_option maxHeartbeats 4000000 in
theorem LexTail_walk (G : Nat) (s : ByteArray) (n : Int) (w : World) (hs : s.size ≤ maxLen) (hT : Tabs G w) :
    Calls Tryz.prog 6 #[.string s, .int .i64 n] w fun e w' => e = .returned (.bool true) ∧ Below w.heap.size w w' := by
  have hK := known_any G w hT
  have htk := fun (W : World) (hW : Below w.heap.size w W) => tokens_any s W hs (Tabs.of (hT.below (hW.mono hT.le)).now)
  have htail := tail_law s.data.toList
  have hfit := tok_fits s.data.toList
  have hzz := tokens_zero s.data.toList
  have hlen : s.data.toList.length = s.size := by rw [Array.length_toList]; rfl
  obtain ⟨⟨ts, E, ⟨qa, ql, qc⟩⟩, hR⟩ : ∃ R, T.tokens s.data.toList = R := ⟨_, rfl⟩
  rw [hR] at htk htail hfit hzz
  unfold diagV at htk
  simp only at htk hzz
  have HK := Lib.hid hK
  have HTK := Lib.hid htk
  have HLEN := Lib.hid hlen
  have HZ := Lib.hid hzz
  have HT := Lib.hid hT
  have HTAIL := Lib.hid htail
  have HFIT := Lib.hid hfit
  clear hK htk hlen hR hzz hT htail hfit
  go_enter Tryz.func6, Tryz.ntmps6
  go_wp2_with fail
  refine HK.out.mono ?_
  rintro _ w0 ⟨rfl, hb0⟩
  have HB0 := Lib.hid hb0
  clear hb0
  go_wp2_with fail
  refine (HTK.out w0 HB0.out).mono ?_
  rintro _ w1 ⟨v, rfl, hb1, hown⟩
  obtain ⟨va, vc, rfl⟩ := own_slice hown
  have hrow := Row.own hown (Nat.le_refl _)
  have hs1 := hb1.size
  have HB1 := Lib.hid (HB0.out.trans (hb1.mono HB0.out.size))
  have hsz1 := HB1.out.size
  have HROW := Lib.hid hrow
  clear hb1 hown hrow
  by_cases hE : E = 0
  · subst hE
    obtain ⟨hzE, _, hz⟩ := HZ.out rfl
    simp only [U.zero, U.Pos.mk.injEq] at hz
    obtain ⟨rfl, rfl, rfl⟩ := hz
    have hss := (eE_zero _ hzE).1
    rw [HLEN.out] at hss
    obtain ⟨hfl, hff⟩ := HFIT.out _ _ rfl
    obtain ⟨m, hm⟩ : ∃ m, ts.length = m := ⟨_, rfl⟩
    rw [hm] at HROW hfl ⊢
    have HM := Lib.hid hm
    have HFF := Lib.hid hff
    clear hzE hm hff
    by_cases hn0 : n < 0
    · go_wp2
      go_ret
      refine ⟨rfl, ?_⟩
      (repeat (with_reducible first | exact HB1.out | refine Below.setCell ?_ ?_ _ | refine Below.alloc ?_ ?_ _ | refine Below.drewN ?_ _ | refine Below.drew ?_)) <;> first | omega | (simp; omega) | (simp; done)
    · by_cases hnm : (m : Int) ≤ n
      · go_wp2
        go_ret
        refine ⟨rfl, ?_⟩
        (repeat (with_reducible first | exact HB1.out | refine Below.setCell ?_ ?_ _ | refine Below.alloc ?_ ?_ _ | refine Below.drewN ?_ _ | refine Below.drew ?_)) <;> first | omega | (simp; omega) | (simp; done)
      · obtain ⟨N, rfl⟩ : ∃ N : Nat, n = N := ⟨n.toNat, by omega⟩
        have hNm : N < m := by omega
        have hNm' : (N : Int) < (m : Int) := by omega
        have hnm2 : decide ((m : Int) ≤ (N : Int)) = false := decide_eq_false hnm
        have hNl : N < ts.length := by rw [HM.out]; exact hNm
        obtain ⟨o, hpo, hos, hprev, ms, hms, hrel⟩ := HTAIL.out ts ⟨0, 0, 0⟩ rfl N hNl
        have hfN := HFF.out _ (List.getElem_mem hNl)
        obtain ⟨g, off, rfl, hg, hc, d0, d1, d2, d3, d4, d5⟩ := row_tok HROW.out HM.out N hNl
        obtain ⟨x, hx⟩ : ∃ x, ts[N]'hNl = x := ⟨_, rfl⟩
        rw [hx] at d0 d1 d2 d3 d4 d5 hpo hfN hrel
        obtain ⟨kx, tx, nx, ⟨pa, pl, pc⟩⟩ := x
        simp only at d0 d1 d2 d3 d4 d5 hpo hrel
        subst hpo
        obtain ⟨_, hf2, hf3, hf4, hf5, hf6⟩ := hfN
        simp only at hf2 hf3 hf4 hf5 hf6
        have e3 : w1.cell? ⟨g, off + N * 6 + 3, none⟩ = some (.int .i64 o) := d3
        have e4 : w1.cell? ⟨g, off + N * 6 + 3 + 1, none⟩ = some (.int .i64 pl) := d4
        have e5 : w1.cell? ⟨g, off + N * 6 + 3 + 2, none⟩ = some (.int .i64 pc) := d5
        rw [HLEN.out] at hos
        have hos' : (o : Int) < (s.size : Int) := by omega
        have hogN : decide (s.size ≤ o) = false := decide_eq_false (by omega)
        have ho0 : decide ((o : Int) < 0) = false := decide_eq_false (by omega)
        have hoge : decide ((s.size : Int) ≤ (o : Int)) = false := decide_eq_false (by omega)
        have htk2 := fun (W : World) (hW : Below w.heap.size w W) => tokens_any (s.extract o s.size) W (by rw [ByteArray.size_extract]; unfold maxLen at hs ⊢; omega) (Tabs.of (HT.out.below (hW.mono HT.out.le)).now)
        rw [extract_list, hms] at htk2
        unfold diagV at htk2
        simp only [U.zero] at htk2
        have HTK2 := Lib.hid htk2
        have HREL := Lib.hid hrel
        have HX := Lib.hid hx
        clear htk2 hrel hx hms d0 d1 d2 d3 d4 d5
        by_cases hN0 : 0 < N
        · have hpv := hprev hN0
          obtain ⟨g', off', hgo, _, _, _, _, _, b3, _, _⟩ := row_tok HROW.out HM.out (N - 1) (by omega)
          injection hgo with hgo
          injection hgo with hg1 hg2
          subst hg1 hg2
          have hfP := HFF.out _ (List.getElem_mem (show N - 1 < ts.length by omega))
          obtain ⟨y, hy⟩ : ∃ y, (ts[N - 1]'(by omega)).p.a = y := ⟨_, rfl⟩
          rw [hy] at b3 hpv
          have b3' : w1.cell? ⟨g, off + (N - 1) * 6 + 3, none⟩ = some (.int .i64 y) := b3
          have hpv' : decide ((o : Int) ≤ y) = false := decide_eq_false (by omega)
          have hN0' : decide ((0 : Int) < (N : Int)) = true := decide_eq_true (by omega)
          have hN0n : decide (0 < N) = true := decide_eq_true (by omega)
          have hN1 : (0 : Int) ≤ (N : Int) - 1 := by omega
          have hN2 : (N : Int) - 1 < (m : Int) := by omega
          have hN3 : ((N : Int) - 1).toNat = N - 1 := by omega
          have hw1 : IntKind.i64.wrap ((N : Int) - 1) = (N : Int) - 1 := i64_wrap _ (by omega)
          clear hprev hfP hy b3
          go_wp2_with fail
          go_quiet (fail)
          go_wp2_with fail
          refine (HTK2.out _ (by (repeat (with_reducible first | exact HB1.out | refine Below.setCell ?_ ?_ _ | refine Below.alloc ?_ ?_ _ | refine Below.drewN ?_ _ | refine Below.drew ?_)) <;> first | omega | (simp; omega) | (simp; done))).mono ?_
          rintro _ w4 ⟨v4, rfl, hb4, hown4⟩
          obtain ⟨va4, vc4, rfl⟩ := own_slice hown4
          have hX0 : Below w1.heap.size w1 w4 := (by (repeat (with_reducible first | exact Below.refl _ _ | refine Below.setCell ?_ ?_ _ | refine Below.alloc ?_ ?_ _ | refine Below.drewN ?_ _ | refine Below.drew ?_)) <;> first | omega | (simp; omega) | (simp; done) : Below w1.heap.size w1 _).trans (hb4.mono (by simp; omega))
          have hDX := (Blk.drewN (((Blk.new w1 w1.heap.size #[.int .i64 0, .int .i64 0, .int .i64 0, .int .i64 0] 31 rfl).alloc (.cells #[.int .i64 o, .int .i64 pl, .int .i64 pc] 29))) _).below hb4 (by simp; omega)
          have hFX := (Blk.drewN (Blk.new (w1.alloc (.cells #[.int .i64 0, .int .i64 0, .int .i64 0, .int .i64 0] 31)) (w1.heap.size + 1) #[.int .i64 o, .int .i64 pl, .int .i64 pc] 29 (by simp)) _).below hb4 (by simp)
          have hs4 : w1.heap.size + 1 + 1 ≤ w4.heap.size := by
            have := hb4.size
            simp at this
            omega
          have hD0 : w4.cell? ⟨w1.heap.size, 0, none⟩ = some (.int .i64 0) := hDX.cell 0
          have hD1 : w4.cell? ⟨w1.heap.size, 1, none⟩ = some (.int .i64 0) := hDX.cell 1
          have hD2 : w4.cell? ⟨w1.heap.size, 2, none⟩ = some (.int .i64 0) := hDX.cell 2
          have hD3 : w4.cell? ⟨w1.heap.size, 3, none⟩ = some (.int .i64 0) := hDX.cell 3
          have hZ0 := hDX.free 0
          have hZ1 := hDX.free 1
          have hZ2 := hDX.free 2
          have hZ3 := hDX.free 3
          have hmv : (m : Int) ≤ (vc : Int) := by omega
          have hNle : (N : Int) ≤ (m : Int) := by omega
          have HHB := Lib.hid hb4
          have HOW := Lib.hid hown4
          have HX0 := Lib.hid hX0
          have HFX := Lib.hid hFX
          clear hb4 hown4 hDX hX0 hFX
          go_wp2_with fail
          obtain ⟨W5, hW5⟩ : ∃ W, (((w4.setCell ⟨w1.heap.size, 0, none⟩ (.int .i64 0)).setCell ⟨w1.heap.size, 1, none⟩ (.int .i64 0)).setCell ⟨w1.heap.size, 2, none⟩ (.int .i64 0)).setCell ⟨w1.heap.size, 3, none⟩ (.int .i64 0) = W := ⟨_, rfl⟩
          have hb5 : Below w1.heap.size w1 W5 := by rw [← hW5]; (repeat (with_reducible first | exact HX0.out | refine Below.setCell ?_ ?_ _ | refine Below.alloc ?_ ?_ _ | refine Below.drewN ?_ _ | refine Below.drew ?_)) <;> first | omega | (simp; omega) | (simp; done)
          have hs5 : W5.heap.size = w4.heap.size := by rw [← hW5]; simp
          have ho5 := own_keep (w' := W5) HOW.out (fun k hk => by
            have hlt := (HOW.out.lt k hk).1
            simp at hlt
            rw [← hW5, heap_setCell_other _ _ _ _ (by show k ≠ w1.heap.size; omega), heap_setCell_other _ _ _ _ (by show k ≠ w1.heap.size; omega), heap_setCell_other _ _ _ _ (by show k ≠ w1.heap.size; omega), heap_setCell_other _ _ _ _ (by show k ≠ w1.heap.size; omega)])
          have hF5 : Blk W5 (w1.heap.size + 1) #[.int .i64 o, .int .i64 pl, .int .i64 pc] 29 := by
            rw [← hW5]
            exact (((HFX.out.setOther (by simp) _).setOther (by simp) _).setOther (by simp) _).setOther (by simp) _
          have r1 := Row.own ho5 (Nat.le_refl _)
          have r2 := ((HROW.out.from HM.out N hNm).below hb5).mono (show w1.heap.size ≤ W5.heap.size by omega)
          have r3 := (HROW.out.below hb5).mono (show w1.heap.size ≤ W5.heap.size by omega)
          have hdl : (ts.drop N).length = m - N := by rw [List.length_drop, HM.out]
          have hML : ms.length = m - N := HREL.out.len.symm.trans hdl
          rw [hW5]
          refine (same_below ms (ts.drop N) va4 (some ⟨g, off + N * 6, none⟩) ms.length (m - N) vc4 (vc - N) false W5 rfl hdl (by omega) (by omega) r1 r2).mono ?_
          rintro _ w6 ⟨rfl, hb6⟩
          rw [HREL.out.same]
          have RM := Lib.hid (r1.step hb6)
          have RT := Lib.hid (r3.step hb6)
          have FB := hF5.below hb6 hF5.lt
          have hs6 := hb6.size
          have hF0 : w6.cell? ⟨w1.heap.size + 1, 0, none⟩ = some (.int .i64 o) := FB.cell 0
          have hF1 : w6.cell? ⟨w1.heap.size + 1, 1, none⟩ = some (.int .i64 pl) := FB.cell 1
          have hF2 : w6.cell? ⟨w1.heap.size + 1, 2, none⟩ = some (.int .i64 pc) := FB.cell 2
          have hFl : w1.heap.size + 1 < w6.heap.size := FB.lt
          have HB6 := Lib.hid (HB1.out.trans ((hb5.trans (hb6.mono (by omega))).mono (by omega)))
          have HML := Lib.hid hML
          have HF0 := Lib.hid hF0
          have HF1 := Lib.hid hF1
          have HF2 := Lib.hid hF2
          obtain ⟨L, hL⟩ : ∃ L, ms.length = L := ⟨_, rfl⟩
          have hLN : L = m - N := hL.symm.trans hML
          rw [hL] at RM ⊢
          have HL := Lib.hid hL
          clear hb5 ho5 hF5 r1 r2 r3 hdl hML hb6 FB hF0 hF1 hF2 hW5 HOW HHB HX0 HFX hD0 hD1 hD2 hD3 hZ0 hZ1 hZ2 hZ3 hL
          go_wp2_with fail
          go_loopw [85] (fun u wr => ∃ i : Nat, i ≤ L ∧ u = .int .i64 i ∧ Below w6.heap.size w6 wr) (fun u _ => L - (intOf u).toNat)
          case atStart => exact ⟨0, Nat.zero_le _, rfl, Below.refl _ _⟩
          case round =>
            obtain ⟨i, hi, rfl, hbe⟩ := hrel
            have hse := hbe.size
            by_cases hlt : i < L
            · have hil : i < ms.length := by rw [HL.out]; exact hlt
              have hNi : N + i < ts.length := by rw [HM.out]; omega
              obtain ⟨g4, off4, rfl, hg4, hc4, d0, d1, d2, d3, d4, d5⟩ := row_tok RM.out HL.out i hil
              obtain ⟨g', off', hgo, hg', _, _, _, _, b3, b4, b5⟩ := row_tok RT.out HM.out (N + i) hNi
              injection hgo with hgo
              injection hgo with hg1 hg2
              subst hg1 hg2
              have hdr : i < (ts.drop N).length := by rw [List.length_drop]; omega
              have hri := HREL.out.at i hdr hil
              rw [List.getElem_drop] at hri
              have hfi := HFF.out _ (List.getElem_mem hNi)
              obtain ⟨y, hy⟩ : ∃ y, ms[i]'hil = y := ⟨_, rfl⟩
              obtain ⟨x2, hx2⟩ : ∃ y, ts[N + i]'hNi = y := ⟨_, rfl⟩
              rw [hy] at d0 d1 d2 d3 d4 d5 hri
              rw [hx2] at b3 b4 b5 hri hfi
              obtain ⟨ky, ty, ny, ⟨ya, yl, yc⟩⟩ := y
              obtain ⟨kz, tz, nz, ⟨za, zl, zc⟩⟩ := x2
              obtain ⟨_, _, _, q1, q2, q3, q4, q5⟩ := hri
              obtain ⟨f1, f2, f3, f4, f5, f6⟩ := hfi
              simp only at d0 d1 d2 d3 d4 d5 b3 b4 b5 q1 q2 q3 q4 q5 f1 f2 f3 f4 f5 f6
              have e0 := (hbe.cell (p := ⟨g4, off4 + i * 6, none⟩) hg4).trans d0
              have e1 := (hbe.cell (p := ⟨g4, off4 + i * 6 + 1, none⟩) hg4).trans d1
              have e2 := (hbe.cell (p := ⟨g4, off4 + i * 6 + 2, none⟩) hg4).trans d2
              have e3 := (hbe.cell (p := ⟨g4, off4 + i * 6 + 3, none⟩) hg4).trans d3
              have e4 : wr.cell? ⟨g4, off4 + i * 6 + 3 + 1, none⟩ = _ := (hbe.cell (p := ⟨g4, off4 + i * 6 + 4, none⟩) hg4).trans d4
              have e5 : wr.cell? ⟨g4, off4 + i * 6 + 3 + 2, none⟩ = _ := (hbe.cell (p := ⟨g4, off4 + i * 6 + 5, none⟩) hg4).trans d5
              have c3 := (hbe.cell (p := ⟨g, off + (N + i) * 6 + 3, none⟩) hg').trans b3
              have c4 : wr.cell? ⟨g, off + (N + i) * 6 + 3 + 1, none⟩ = _ := (hbe.cell (p := ⟨g, off + (N + i) * 6 + 4, none⟩) hg').trans b4
              have c5 : wr.cell? ⟨g, off + (N + i) * 6 + 3 + 2, none⟩ = _ := (hbe.cell (p := ⟨g, off + (N + i) * 6 + 5, none⟩) hg').trans b5
              have p0 := (hbe.cell (p := ⟨w1.heap.size + 1, 0, none⟩) hFl).trans HF0.out
              have p1 := (hbe.cell (p := ⟨w1.heap.size + 1, 1, none⟩) hFl).trans HF1.out
              have p2 := (hbe.cell (p := ⟨w1.heap.size + 1, 2, none⟩) hFl).trans HF2.out
              have hgw : g < wr.heap.size := by omega
              have hpw : w1.heap.size + 1 < wr.heap.size := by omega
              have hiL : (i : Int) < (L : Int) := by omega
              have hwn : IntKind.i64.wrap ((N : Int) + (i : Int)) = (N : Int) + (i : Int) := i64_wrap _ (by omega)
              have hn0 : (0 : Int) ≤ (N : Int) + (i : Int) := by omega
              have hn1 : (N : Int) + (i : Int) < (m : Int) := by omega
              have hn2 : ((N : Int) + (i : Int)).toNat = N + i := by omega
              obtain rfl : za = ya + o := by omega
              obtain rfl : zl = yl + pl - 1 := by omega
              have HBE := Lib.hid hbe
              have HQ4 := Lib.hid q4
              have HQ5 := Lib.hid q5
              clear d0 d1 d2 d3 d4 d5 b3 b4 b5 hbe q1 q2 q4 q5 hy hx2
              go_wp2_with fail
              obtain ⟨Wt, hWt⟩ : ∃ W, wr.alloc (.cells #[.int .u8 ky, .string ⟨ty.toArray⟩, .int .i64 ny, .int .i64 ya, .int .i64 yl, .int .i64 yc] 42) = W := ⟨_, rfl⟩
              have hbt := (Blk.new wr wr.heap.size #[.int .u8 ky, .string ⟨ty.toArray⟩, .int .i64 ny, .int .i64 ya, .int .i64 yl, .int .i64 yc] 42 rfl)
              have hal : Below wr.heap.size wr Wt := by rw [← hWt]; exact (Below.refl _ _).alloc (Nat.le_refl _) _
              have hst : Wt.heap.size = wr.heap.size + 1 := by rw [← hWt]; simp
              rw [hWt] at hbt ⊢
              have y3 : Wt.cell? ⟨wr.heap.size, 3, none⟩ = some (.int .i64 ya) := hbt.cell 3
              have y4 : Wt.cell? ⟨wr.heap.size, 4, none⟩ = some (.int .i64 yl) := hbt.cell 4
              have y5 : Wt.cell? ⟨wr.heap.size, 5, none⟩ = some (.int .i64 yc) := hbt.cell 5
              have k3 := (hal.cell (p := ⟨g, off + (N + i) * 6 + 3, none⟩) hgw).trans c3
              have k4 := (hal.cell (p := ⟨g, off + (N + i) * 6 + 3 + 1, none⟩) hgw).trans c4
              have k5 := (hal.cell (p := ⟨g, off + (N + i) * 6 + 3 + 2, none⟩) hgw).trans c5
              have m0 := (hal.cell (p := ⟨w1.heap.size + 1, 0, none⟩) hpw).trans p0
              have m1 := (hal.cell (p := ⟨w1.heap.size + 1, 1, none⟩) hpw).trans p1
              have m2 := (hal.cell (p := ⟨w1.heap.size + 1, 2, none⟩) hpw).trans p2
              have hgt : g < Wt.heap.size := by omega
              have hpt : w1.heap.size + 1 < Wt.heap.size := by omega
              have hrt : wr.heap.size < Wt.heap.size := by omega
              have HBT := Lib.hid (HBE.out.trans (hal.mono hse))
              have m0' := fun (P1 P2 : Obj) => cell_al2 m0 hpt P1 P2
              have m1' := fun (P1 P2 : Obj) => cell_al2 m1 hpt P1 P2
              have m2' := fun (P1 P2 : Obj) => cell_al2 m2 hpt P1 P2
              have n0' : ∀ (P1 : Obj) (cs : Array Value) (t : TypeId) (j : Nat), ((Wt.alloc P1).alloc (.cells cs t)).cell? ⟨Wt.heap.size + 1, j, none⟩ = cs[j]? := fun P1 cs t j => by
                have h1 := Lib.cell_of_heap (heap_alloc_new (Wt.alloc P1) (.cells cs t)) j
                rw [World.size_alloc] at h1
                exact h1
              have n1' : ∀ (P2 : Obj) (cs : Array Value) (t : TypeId) (j : Nat), ((Wt.alloc (.cells cs t)).alloc P2).cell? ⟨Wt.heap.size, j, none⟩ = cs[j]? := fun P2 cs t j => by
                rw [← Lib.cell_of_heap (heap_alloc_new Wt (.cells cs t)) j]
                exact ((Below.refl _ _).alloc (Nat.le_refl _) _).cell (by simp)
              clear hst hLN hWt hbt hal c3 c4 c5 p0 p1 p2 e0 e1 e2 e3 e4 e5 m0 m1 m2
              have hwa : IntKind.i64.wrap (ya + o) = ya + o := i64_wrap _ (by omega)
              have hwl : IntKind.i64.wrap (yl + pl) = yl + pl := i64_wrap _ (by omega)
              have hwl2 : IntKind.i64.wrap (yl + pl - 1) = yl + pl - 1 := i64_wrap _ (by omega)
              by_cases h1 : yl = 1
              · obtain rfl : zc = yc + pc - 1 := (HQ4.out h1).symm
                have hwc : IntKind.i64.wrap (yc + pc) = yc + pc := i64_wrap _ (by omega)
                have hwc2 : IntKind.i64.wrap (yc + pc - 1) = yc + pc - 1 := i64_wrap _ (by omega)
                have hyl1 : (yl == 1) = true := by rw [h1]; decide
                have hyl2 : decide (1 < yl) = false := decide_eq_false (by omega)
                have H1 := Lib.hid h1
                clear h1
                go_region_held3 (fun w' => w'.cell? ⟨wr.heap.size, 3, none⟩ = some (.int .i64 ya) ∧ w'.cell? ⟨wr.heap.size, 4, none⟩ = some (.int .i64 yl) ∧ w'.cell? ⟨wr.heap.size, 5, none⟩ = some (.int .i64 yc) ∧ w'.cell? ⟨g, off + (N + i) * 6 + 3, none⟩ = some (.int .i64 (ya + o)) ∧ w'.cell? ⟨g, off + (N + i) * 6 + 3 + 1, none⟩ = some (.int .i64 (yl + pl - 1)) ∧ w'.cell? ⟨g, off + (N + i) * 6 + 3 + 2, none⟩ = some (.int .i64 (yc + pc - 1))) (go_keep) (fail)
                all_goals
                  go_wp2
                  refine ⟨⟨i + 1, by omega, by rw [Int.natCast_add]; rfl, ?_⟩, by simp [intOf]; omega⟩
                  (repeat (with_reducible first | exact HBT.out | refine Below.setCell ?_ ?_ _ | refine Below.alloc ?_ ?_ _ | refine Below.drewN ?_ _ | refine Below.drew ?_)) <;> first | omega | (simp; omega) | (simp; done)
              · obtain rfl : yc = zc := HQ5.out (by omega)
                have hyl1 : (yl == 1) = false := by rw [beq_eq_false_iff_ne]; exact h1
                have hyl2 : decide (1 < yl) = true := decide_eq_true (by omega)
                have H1 := Lib.hid h1
                clear h1
                go_region_held3 (fun w' => w'.cell? ⟨wr.heap.size, 3, none⟩ = some (.int .i64 ya) ∧ w'.cell? ⟨wr.heap.size, 4, none⟩ = some (.int .i64 yl) ∧ w'.cell? ⟨wr.heap.size, 5, none⟩ = some (.int .i64 yc) ∧ w'.cell? ⟨g, off + (N + i) * 6 + 3, none⟩ = some (.int .i64 (ya + o)) ∧ w'.cell? ⟨g, off + (N + i) * 6 + 3 + 1, none⟩ = some (.int .i64 (yl + pl - 1)) ∧ w'.cell? ⟨g, off + (N + i) * 6 + 3 + 2, none⟩ = some (.int .i64 (yc))) (go_keep) (fail)
                all_goals
                  go_wp2
                  refine ⟨⟨i + 1, by omega, by rw [Int.natCast_add]; rfl, ?_⟩, by simp [intOf]; omega⟩
                  (repeat (with_reducible first | exact HBT.out | refine Below.setCell ?_ ?_ _ | refine Below.alloc ?_ ?_ _ | refine Below.drewN ?_ _ | refine Below.drew ?_)) <;> first | omega | (simp; omega) | (simp; done)
            · have hiL : i = L := by omega
              subst hiL
              have HBE := Lib.hid hbe
              clear hbe
              go_wp2
              go_ret
              exact ⟨rfl, HB6.out.trans (HBE.out.mono HB6.out.size)⟩
        · have hN0' : decide ((0 : Int) < (N : Int)) = false := decide_eq_false (by omega)
          have hN0n : decide (0 < N) = false := decide_eq_false (by omega)
          have HN0 := Lib.hid hN0
          clear hN0
          clear hprev
          go_wp2_with fail
          go_quiet (fail)
          go_wp2_with fail
          refine (HTK2.out _ (by (repeat (with_reducible first | exact HB1.out | refine Below.setCell ?_ ?_ _ | refine Below.alloc ?_ ?_ _ | refine Below.drewN ?_ _ | refine Below.drew ?_)) <;> first | omega | (simp; omega) | (simp; done))).mono ?_
          rintro _ w4 ⟨v4, rfl, hb4, hown4⟩
          obtain ⟨va4, vc4, rfl⟩ := own_slice hown4
          have hX0 : Below w1.heap.size w1 w4 := (by (repeat (with_reducible first | exact Below.refl _ _ | refine Below.setCell ?_ ?_ _ | refine Below.alloc ?_ ?_ _ | refine Below.drewN ?_ _ | refine Below.drew ?_)) <;> first | omega | (simp; omega) | (simp; done) : Below w1.heap.size w1 _).trans (hb4.mono (by simp; omega))
          have hDX := (Blk.drewN (((Blk.new w1 w1.heap.size #[.int .i64 0, .int .i64 0, .int .i64 0, .int .i64 0] 31 rfl).alloc (.cells #[.int .i64 o, .int .i64 pl, .int .i64 pc] 29))) _).below hb4 (by simp; omega)
          have hFX := (Blk.drewN (Blk.new (w1.alloc (.cells #[.int .i64 0, .int .i64 0, .int .i64 0, .int .i64 0] 31)) (w1.heap.size + 1) #[.int .i64 o, .int .i64 pl, .int .i64 pc] 29 (by simp)) _).below hb4 (by simp)
          have hs4 : w1.heap.size + 1 + 1 ≤ w4.heap.size := by
            have := hb4.size
            simp at this
            omega
          have hD0 : w4.cell? ⟨w1.heap.size, 0, none⟩ = some (.int .i64 0) := hDX.cell 0
          have hD1 : w4.cell? ⟨w1.heap.size, 1, none⟩ = some (.int .i64 0) := hDX.cell 1
          have hD2 : w4.cell? ⟨w1.heap.size, 2, none⟩ = some (.int .i64 0) := hDX.cell 2
          have hD3 : w4.cell? ⟨w1.heap.size, 3, none⟩ = some (.int .i64 0) := hDX.cell 3
          have hZ0 := hDX.free 0
          have hZ1 := hDX.free 1
          have hZ2 := hDX.free 2
          have hZ3 := hDX.free 3
          have hmv : (m : Int) ≤ (vc : Int) := by omega
          have hNle : (N : Int) ≤ (m : Int) := by omega
          have HHB := Lib.hid hb4
          have HOW := Lib.hid hown4
          have HX0 := Lib.hid hX0
          have HFX := Lib.hid hFX
          clear hb4 hown4 hDX hX0 hFX
          go_wp2_with fail
          obtain ⟨W5, hW5⟩ : ∃ W, (((w4.setCell ⟨w1.heap.size, 0, none⟩ (.int .i64 0)).setCell ⟨w1.heap.size, 1, none⟩ (.int .i64 0)).setCell ⟨w1.heap.size, 2, none⟩ (.int .i64 0)).setCell ⟨w1.heap.size, 3, none⟩ (.int .i64 0) = W := ⟨_, rfl⟩
          have hb5 : Below w1.heap.size w1 W5 := by rw [← hW5]; (repeat (with_reducible first | exact HX0.out | refine Below.setCell ?_ ?_ _ | refine Below.alloc ?_ ?_ _ | refine Below.drewN ?_ _ | refine Below.drew ?_)) <;> first | omega | (simp; omega) | (simp; done)
          have hs5 : W5.heap.size = w4.heap.size := by rw [← hW5]; simp
          have ho5 := own_keep (w' := W5) HOW.out (fun k hk => by
            have hlt := (HOW.out.lt k hk).1
            simp at hlt
            rw [← hW5, heap_setCell_other _ _ _ _ (by show k ≠ w1.heap.size; omega), heap_setCell_other _ _ _ _ (by show k ≠ w1.heap.size; omega), heap_setCell_other _ _ _ _ (by show k ≠ w1.heap.size; omega), heap_setCell_other _ _ _ _ (by show k ≠ w1.heap.size; omega)])
          have hF5 : Blk W5 (w1.heap.size + 1) #[.int .i64 o, .int .i64 pl, .int .i64 pc] 29 := by
            rw [← hW5]
            exact (((HFX.out.setOther (by simp) _).setOther (by simp) _).setOther (by simp) _).setOther (by simp) _
          have r1 := Row.own ho5 (Nat.le_refl _)
          have r2 := ((HROW.out.from HM.out N hNm).below hb5).mono (show w1.heap.size ≤ W5.heap.size by omega)
          have r3 := (HROW.out.below hb5).mono (show w1.heap.size ≤ W5.heap.size by omega)
          have hdl : (ts.drop N).length = m - N := by rw [List.length_drop, HM.out]
          have hML : ms.length = m - N := HREL.out.len.symm.trans hdl
          rw [hW5]
          refine (same_below ms (ts.drop N) va4 (some ⟨g, off + N * 6, none⟩) ms.length (m - N) vc4 (vc - N) false W5 rfl hdl (by omega) (by omega) r1 r2).mono ?_
          rintro _ w6 ⟨rfl, hb6⟩
          rw [HREL.out.same]
          have RM := Lib.hid (r1.step hb6)
          have RT := Lib.hid (r3.step hb6)
          have FB := hF5.below hb6 hF5.lt
          have hs6 := hb6.size
          have hF0 : w6.cell? ⟨w1.heap.size + 1, 0, none⟩ = some (.int .i64 o) := FB.cell 0
          have hF1 : w6.cell? ⟨w1.heap.size + 1, 1, none⟩ = some (.int .i64 pl) := FB.cell 1
          have hF2 : w6.cell? ⟨w1.heap.size + 1, 2, none⟩ = some (.int .i64 pc) := FB.cell 2
          have hFl : w1.heap.size + 1 < w6.heap.size := FB.lt
          have HB6 := Lib.hid (HB1.out.trans ((hb5.trans (hb6.mono (by omega))).mono (by omega)))
          have HML := Lib.hid hML
          have HF0 := Lib.hid hF0
          have HF1 := Lib.hid hF1
          have HF2 := Lib.hid hF2
          obtain ⟨L, hL⟩ : ∃ L, ms.length = L := ⟨_, rfl⟩
          have hLN : L = m - N := hL.symm.trans hML
          rw [hL] at RM ⊢
          have HL := Lib.hid hL
          clear hb5 ho5 hF5 r1 r2 r3 hdl hML hb6 FB hF0 hF1 hF2 hW5 HOW HHB HX0 HFX hD0 hD1 hD2 hD3 hZ0 hZ1 hZ2 hZ3 hL
          go_wp2_with fail
          go_loopw [85] (fun u wr => ∃ i : Nat, i ≤ L ∧ u = .int .i64 i ∧ Below w6.heap.size w6 wr) (fun u _ => L - (intOf u).toNat)
          case atStart => exact ⟨0, Nat.zero_le _, rfl, Below.refl _ _⟩
          case round =>
            obtain ⟨i, hi, rfl, hbe⟩ := hrel
            have hse := hbe.size
            by_cases hlt : i < L
            · have hil : i < ms.length := by rw [HL.out]; exact hlt
              have hNi : N + i < ts.length := by rw [HM.out]; omega
              obtain ⟨g4, off4, rfl, hg4, hc4, d0, d1, d2, d3, d4, d5⟩ := row_tok RM.out HL.out i hil
              obtain ⟨g', off', hgo, hg', _, _, _, _, b3, b4, b5⟩ := row_tok RT.out HM.out (N + i) hNi
              injection hgo with hgo
              injection hgo with hg1 hg2
              subst hg1 hg2
              have hdr : i < (ts.drop N).length := by rw [List.length_drop]; omega
              have hri := HREL.out.at i hdr hil
              rw [List.getElem_drop] at hri
              have hfi := HFF.out _ (List.getElem_mem hNi)
              obtain ⟨y, hy⟩ : ∃ y, ms[i]'hil = y := ⟨_, rfl⟩
              obtain ⟨x2, hx2⟩ : ∃ y, ts[N + i]'hNi = y := ⟨_, rfl⟩
              rw [hy] at d0 d1 d2 d3 d4 d5 hri
              rw [hx2] at b3 b4 b5 hri hfi
              obtain ⟨ky, ty, ny, ⟨ya, yl, yc⟩⟩ := y
              obtain ⟨kz, tz, nz, ⟨za, zl, zc⟩⟩ := x2
              obtain ⟨_, _, _, q1, q2, q3, q4, q5⟩ := hri
              obtain ⟨f1, f2, f3, f4, f5, f6⟩ := hfi
              simp only at d0 d1 d2 d3 d4 d5 b3 b4 b5 q1 q2 q3 q4 q5 f1 f2 f3 f4 f5 f6
              have e0 := (hbe.cell (p := ⟨g4, off4 + i * 6, none⟩) hg4).trans d0
              have e1 := (hbe.cell (p := ⟨g4, off4 + i * 6 + 1, none⟩) hg4).trans d1
              have e2 := (hbe.cell (p := ⟨g4, off4 + i * 6 + 2, none⟩) hg4).trans d2
              have e3 := (hbe.cell (p := ⟨g4, off4 + i * 6 + 3, none⟩) hg4).trans d3
              have e4 : wr.cell? ⟨g4, off4 + i * 6 + 3 + 1, none⟩ = _ := (hbe.cell (p := ⟨g4, off4 + i * 6 + 4, none⟩) hg4).trans d4
              have e5 : wr.cell? ⟨g4, off4 + i * 6 + 3 + 2, none⟩ = _ := (hbe.cell (p := ⟨g4, off4 + i * 6 + 5, none⟩) hg4).trans d5
              have c3 := (hbe.cell (p := ⟨g, off + (N + i) * 6 + 3, none⟩) hg').trans b3
              have c4 : wr.cell? ⟨g, off + (N + i) * 6 + 3 + 1, none⟩ = _ := (hbe.cell (p := ⟨g, off + (N + i) * 6 + 4, none⟩) hg').trans b4
              have c5 : wr.cell? ⟨g, off + (N + i) * 6 + 3 + 2, none⟩ = _ := (hbe.cell (p := ⟨g, off + (N + i) * 6 + 5, none⟩) hg').trans b5
              have p0 := (hbe.cell (p := ⟨w1.heap.size + 1, 0, none⟩) hFl).trans HF0.out
              have p1 := (hbe.cell (p := ⟨w1.heap.size + 1, 1, none⟩) hFl).trans HF1.out
              have p2 := (hbe.cell (p := ⟨w1.heap.size + 1, 2, none⟩) hFl).trans HF2.out
              have hgw : g < wr.heap.size := by omega
              have hpw : w1.heap.size + 1 < wr.heap.size := by omega
              have hiL : (i : Int) < (L : Int) := by omega
              have hwn : IntKind.i64.wrap ((N : Int) + (i : Int)) = (N : Int) + (i : Int) := i64_wrap _ (by omega)
              have hn0 : (0 : Int) ≤ (N : Int) + (i : Int) := by omega
              have hn1 : (N : Int) + (i : Int) < (m : Int) := by omega
              have hn2 : ((N : Int) + (i : Int)).toNat = N + i := by omega
              obtain rfl : za = ya + o := by omega
              obtain rfl : zl = yl + pl - 1 := by omega
              have HBE := Lib.hid hbe
              have HQ4 := Lib.hid q4
              have HQ5 := Lib.hid q5
              clear d0 d1 d2 d3 d4 d5 b3 b4 b5 hbe q1 q2 q4 q5 hy hx2
              go_wp2_with fail
              obtain ⟨Wt, hWt⟩ : ∃ W, wr.alloc (.cells #[.int .u8 ky, .string ⟨ty.toArray⟩, .int .i64 ny, .int .i64 ya, .int .i64 yl, .int .i64 yc] 42) = W := ⟨_, rfl⟩
              have hbt := (Blk.new wr wr.heap.size #[.int .u8 ky, .string ⟨ty.toArray⟩, .int .i64 ny, .int .i64 ya, .int .i64 yl, .int .i64 yc] 42 rfl)
              have hal : Below wr.heap.size wr Wt := by rw [← hWt]; exact (Below.refl _ _).alloc (Nat.le_refl _) _
              have hst : Wt.heap.size = wr.heap.size + 1 := by rw [← hWt]; simp
              rw [hWt] at hbt ⊢
              have y3 : Wt.cell? ⟨wr.heap.size, 3, none⟩ = some (.int .i64 ya) := hbt.cell 3
              have y4 : Wt.cell? ⟨wr.heap.size, 4, none⟩ = some (.int .i64 yl) := hbt.cell 4
              have y5 : Wt.cell? ⟨wr.heap.size, 5, none⟩ = some (.int .i64 yc) := hbt.cell 5
              have k3 := (hal.cell (p := ⟨g, off + (N + i) * 6 + 3, none⟩) hgw).trans c3
              have k4 := (hal.cell (p := ⟨g, off + (N + i) * 6 + 3 + 1, none⟩) hgw).trans c4
              have k5 := (hal.cell (p := ⟨g, off + (N + i) * 6 + 3 + 2, none⟩) hgw).trans c5
              have m0 := (hal.cell (p := ⟨w1.heap.size + 1, 0, none⟩) hpw).trans p0
              have m1 := (hal.cell (p := ⟨w1.heap.size + 1, 1, none⟩) hpw).trans p1
              have m2 := (hal.cell (p := ⟨w1.heap.size + 1, 2, none⟩) hpw).trans p2
              have hgt : g < Wt.heap.size := by omega
              have hpt : w1.heap.size + 1 < Wt.heap.size := by omega
              have hrt : wr.heap.size < Wt.heap.size := by omega
              have HBT := Lib.hid (HBE.out.trans (hal.mono hse))
              have m0' := fun (P1 P2 : Obj) => cell_al2 m0 hpt P1 P2
              have m1' := fun (P1 P2 : Obj) => cell_al2 m1 hpt P1 P2
              have m2' := fun (P1 P2 : Obj) => cell_al2 m2 hpt P1 P2
              have n0' : ∀ (P1 : Obj) (cs : Array Value) (t : TypeId) (j : Nat), ((Wt.alloc P1).alloc (.cells cs t)).cell? ⟨Wt.heap.size + 1, j, none⟩ = cs[j]? := fun P1 cs t j => by
                have h1 := Lib.cell_of_heap (heap_alloc_new (Wt.alloc P1) (.cells cs t)) j
                rw [World.size_alloc] at h1
                exact h1
              have n1' : ∀ (P2 : Obj) (cs : Array Value) (t : TypeId) (j : Nat), ((Wt.alloc (.cells cs t)).alloc P2).cell? ⟨Wt.heap.size, j, none⟩ = cs[j]? := fun P2 cs t j => by
                rw [← Lib.cell_of_heap (heap_alloc_new Wt (.cells cs t)) j]
                exact ((Below.refl _ _).alloc (Nat.le_refl _) _).cell (by simp)
              clear hst hLN hWt hbt hal c3 c4 c5 p0 p1 p2 e0 e1 e2 e3 e4 e5 m0 m1 m2
              have hwa : IntKind.i64.wrap (ya + o) = ya + o := i64_wrap _ (by omega)
              have hwl : IntKind.i64.wrap (yl + pl) = yl + pl := i64_wrap _ (by omega)
              have hwl2 : IntKind.i64.wrap (yl + pl - 1) = yl + pl - 1 := i64_wrap _ (by omega)
              by_cases h1 : yl = 1
              · obtain rfl : zc = yc + pc - 1 := (HQ4.out h1).symm
                have hwc : IntKind.i64.wrap (yc + pc) = yc + pc := i64_wrap _ (by omega)
                have hwc2 : IntKind.i64.wrap (yc + pc - 1) = yc + pc - 1 := i64_wrap _ (by omega)
                have hyl1 : (yl == 1) = true := by rw [h1]; decide
                have hyl2 : decide (1 < yl) = false := decide_eq_false (by omega)
                have H1 := Lib.hid h1
                clear h1
                go_region_held3 (fun w' => w'.cell? ⟨wr.heap.size, 3, none⟩ = some (.int .i64 ya) ∧ w'.cell? ⟨wr.heap.size, 4, none⟩ = some (.int .i64 yl) ∧ w'.cell? ⟨wr.heap.size, 5, none⟩ = some (.int .i64 yc) ∧ w'.cell? ⟨g, off + (N + i) * 6 + 3, none⟩ = some (.int .i64 (ya + o)) ∧ w'.cell? ⟨g, off + (N + i) * 6 + 3 + 1, none⟩ = some (.int .i64 (yl + pl - 1)) ∧ w'.cell? ⟨g, off + (N + i) * 6 + 3 + 2, none⟩ = some (.int .i64 (yc + pc - 1))) (go_keep) (fail)
                all_goals
                  go_wp2
                  refine ⟨⟨i + 1, by omega, by rw [Int.natCast_add]; rfl, ?_⟩, by simp [intOf]; omega⟩
                  (repeat (with_reducible first | exact HBT.out | refine Below.setCell ?_ ?_ _ | refine Below.alloc ?_ ?_ _ | refine Below.drewN ?_ _ | refine Below.drew ?_)) <;> first | omega | (simp; omega) | (simp; done)
              · obtain rfl : yc = zc := HQ5.out (by omega)
                have hyl1 : (yl == 1) = false := by rw [beq_eq_false_iff_ne]; exact h1
                have hyl2 : decide (1 < yl) = true := decide_eq_true (by omega)
                have H1 := Lib.hid h1
                clear h1
                go_region_held3 (fun w' => w'.cell? ⟨wr.heap.size, 3, none⟩ = some (.int .i64 ya) ∧ w'.cell? ⟨wr.heap.size, 4, none⟩ = some (.int .i64 yl) ∧ w'.cell? ⟨wr.heap.size, 5, none⟩ = some (.int .i64 yc) ∧ w'.cell? ⟨g, off + (N + i) * 6 + 3, none⟩ = some (.int .i64 (ya + o)) ∧ w'.cell? ⟨g, off + (N + i) * 6 + 3 + 1, none⟩ = some (.int .i64 (yl + pl - 1)) ∧ w'.cell? ⟨g, off + (N + i) * 6 + 3 + 2, none⟩ = some (.int .i64 (yc))) (go_keep) (fail)
                all_goals
                  go_wp2
                  refine ⟨⟨i + 1, by omega, by rw [Int.natCast_add]; rfl, ?_⟩, by simp [intOf]; omega⟩
                  (repeat (with_reducible first | exact HBT.out | refine Below.setCell ?_ ?_ _ | refine Below.alloc ?_ ?_ _ | refine Below.drewN ?_ _ | refine Below.drew ?_)) <;> first | omega | (simp; omega) | (simp; done)
            · have hiL : i = L := by omega
              subst hiL
              have HBE := Lib.hid hbe
              clear hbe
              go_wp2
              go_ret
              exact ⟨rfl, HB6.out.trans (HBE.out.mono HB6.out.size)⟩
  · have hEd : (E != 0) = true := by rw [bne_iff_ne]; exact hE
    have hEd2 : (E == 0) = false := by rw [beq_eq_false_iff_ne]; exact hE
    go_wp2
    go_ret
    refine ⟨rfl, ?_⟩
    (repeat (with_reducible first | exact HB1.out | refine Below.setCell ?_ ?_ _ | refine Below.alloc ?_ ?_ _ | refine Below.drewN ?_ _ | refine Below.drew ?_)) <;> first | omega | (simp; omega) | (simp; done)
end Go.Proofs.YtaojgcioljcpmaaGreatDoor
