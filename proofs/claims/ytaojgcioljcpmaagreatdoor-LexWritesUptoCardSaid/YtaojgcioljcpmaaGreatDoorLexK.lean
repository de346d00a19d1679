/- Contracts: lex.Tokens. -/
import Derived.Test.YtaojgcioljcpmaaGreatDoorLexJ
import Derived.Test.YtaojgcioljcpmaaGreatDoorLexQ
import Derived.Test.YtaojgcioljcpmaaGreatDoorUtfC
namespace Go.Proofs.YtaojgcioljcpmaaGreatDoor
open Go.RowKit

theorem scan_len' (s : List UInt8) : ∀ f i p, (U.scan s f i p).1.length ≤ f
  | 0, i, p => by simp [U.scan]
  | f + 1, i, p => by
    by_cases h : i < s.length
    · cases hb : U.bad (s.drop i) with
      | true => rw [U.scan_bad s f i p h hb]; simp
      | false => rw [U.scan_good s f i p h hb]; have := scan_len' s f (i + (U.dec (s.drop i)).2) (U.next p (U.dec (s.drop i)).1 (U.dec (s.drop i)).2); simp; omega
    · rw [U.scan_end s (f + 1) i p h]; simp
theorem scan_ok (s : List UInt8) : ∀ f i p, ∀ x ∈ (U.scan s f i p).1, Lib.validRune x.r = true
  | 0, i, p => by simp [U.scan]
  | f + 1, i, p => by
    by_cases h : i < s.length
    · cases hb : U.bad (s.drop i) with
      | true => rw [U.scan_bad s f i p h hb]; simp
      | false =>
        rw [U.scan_good s f i p h hb]
        intro x hx
        rcases List.mem_cons.1 hx with rfl | hx
        · exact (U.enc_dec (s.drop i) (by rw [List.length_drop]; omega) hb).1
        · exact scan_ok s f _ _ x hx
    · rw [U.scan_end s (f + 1) i p h]; simp
theorem pts_small (s : List UInt8) : (U.pts s).length ≤ 4000 ∧ ∀ x ∈ U.pts s, Lib.validRune x.r = true := by
  unfold U.pts
  split
  · simp
  · split
    · refine ⟨?_, scan_ok s _ _ _⟩
      have := scan_len' s s.length 0 U.start
      unfold U.all
      omega
    · simp

def tokCells (k : T.Tok) : List Value := [.int .u8 k.k, .string ⟨k.t.toArray⟩, .int .i64 k.n, .int .i64 k.p.a, .int .i64 k.p.l, .int .i64 k.p.c]
def toksCells (l : List T.Tok) : List Value := l.flatMap tokCells
theorem toksCells_snoc (l : List T.Tok) (k : T.Tok) : toksCells (l ++ [k]) = toksCells l ++ tokCells k := by simp [toksCells]
theorem infoTok : (Tryz.prog.info? 42).map (fun i => (i.zero, i.size, i.bytes)) = some (some (.agg #[.int .u8 0, .string ByteArray.empty, .int .i64 0, .int .i64 0, .int .i64 0, .int .i64 0]), 6, 56) := by kernel_rfl

set_option maxHeartbeats 4000000 in
theorem tokens_any (s : ByteArray) (w : World) (hs : s.size ≤ maxLen) (hT : Tabs w.heap.size w) :
    Calls Tryz.prog 12 #[.string s] w fun e w' => ∃ v,
      e = .returned (.tuple #[v, diagV (T.tokens s.data.toList).2.1 (T.tokens s.data.toList).2.2]) ∧ Below w.heap.size w w' ∧
        w'.ownsRow w.heap.size 42 6 v (T.tokens s.data.toList).1.length (toksCells (T.tokens s.data.toList).1) := by
  obtain ⟨i0, hi, hz0, hz1, hz2⟩ := info_parts infoTok
  have hcases := eE_cases s.data.toList
  have hpo := pts_small s.data.toList
  obtain ⟨R, hR⟩ : ∃ R, T.tokens s.data.toList = R := ⟨_, rfl⟩
  have hR2 : R = if U.eE s.data.toList = 0 then T.toks ((U.pts s.data.toList).length + 1) (U.pts s.data.toList) else ([], U.eE s.data.toList, U.eP s.data.toList) := by rw [← hR]; rfl
  obtain ⟨W1, hW1⟩ : ∃ W1, w.alloc (.cells #[.int .i64 0, .int .i64 0, .int .i64 0, .int .i64 0] 31) = W1 := ⟨_, rfl⟩
  have hb1 : Below w.heap.size w W1 := by rw [← hW1]; exact (Below.refl _ _).alloc (Nat.le_refl _) _
  have hz1' : W1.heap.size = w.heap.size + 1 := by rw [← hW1]; simp
  have s1 : Blk W1 w.heap.size #[.int .i64 0, .int .i64 0, .int .i64 0, .int .i64 0] 31 := by rw [← hW1]; exact Blk.new _ _ _ _ rfl
  have hT1 : TabsIn W1 := (hT.below hb1).now
  have cw := Points_any s W1 hs hT1.utf hT1.size
  obtain ⟨E, hE⟩ : ∃ z, U.eE s.data.toList = z := ⟨_, rfl⟩
  obtain ⟨Q, hQ⟩ : ∃ z, U.eP s.data.toList = z := ⟨_, rfl⟩
  obtain ⟨l, hl⟩ : ∃ z, U.pts s.data.toList = z := ⟨_, rfl⟩
  rw [hE, hQ, hl] at cw hR2
  rw [hE, hl, hQ] at hcases
  rw [hl] at hpo
  rw [hR]
  unfold diagV at cw ⊢
  have HC := Lib.hid cw
  have HS1 := Lib.hid s1
  have HB1 := Lib.hid hb1
  have HT := Lib.hid hT
  have HW1 := Lib.hid hW1
  have HPO := Lib.hid hpo
  have HR2 := Lib.hid hR2
  clear cw hE hQ hl s1 hb1 hT hW1 hpo hR hR2 hT1
  go_enter Tryz.func12, Tryz.ntmps12
  go_wp2_with fail
  rw [HW1.out]
  refine HC.out.mono ?_
  rintro _ w2 ⟨pv, rfl, hb2, hown2⟩
  have hs2 := hb2.size
  have hsb := HS1.out.below hb2 (by omega)
  rcases hcases with ⟨hE0, hlm, hQz⟩ | ⟨hE0, hl0⟩
  · subst hE0
    subst hQz
    clear hlm
    have hRR : R = T.toks (l.length + 1) l := by rw [HR2.out, if_pos rfl]
    obtain ⟨pa, pc, rfl, hpts⟩ := Pts.of_own hown2 (Nat.le_refl _)
    have hB2 : Below w.heap.size w w2 := HB1.out.trans (hb2.mono (by omega))
    obtain ⟨m, hm⟩ : ∃ m, l.length = m := ⟨_, rfl⟩
    rw [hm] at hRR ⊢
    have hm4 : m ≤ 4000 := by rw [← hm]; exact HPO.out.1
    have HM := Lib.hid hm
    have HRR := Lib.hid hRR
    have HB2 := Lib.hid hB2
    have HSB := Lib.hid hsb
    have HPT := Lib.hid hpts
    clear hRR hB2 hsb hpts hown2 hb2 hm
    go_wp2_with fail
    obtain ⟨W3, hW3⟩ : ∃ W3, (w2.alloc (.cells #[.int .i64 0, .int .i64 U.zero.a, .int .i64 U.zero.l, .int .i64 U.zero.c] 31)).alloc (.cells #[.slice pa m pc, .int .i64 0, .int .i64 0, .int .i64 0, .int .i64 0, .int .i64 0] 65) = W3 := ⟨_, rfl⟩
    rw [hW3]
    have hb3 : Below w2.heap.size w2 W3 := by rw [← hW3]; exact ((Below.refl _ _).alloc (Nat.le_refl _) _).alloc (by simp) _
    have hz3 : W3.heap.size = w2.heap.size + 2 := by rw [← hW3]; simp
    have hrd3 : ReadAt W3 (w2.heap.size + 1) w2.heap.size l 0 0 U.zero := by
      refine ⟨⟨pa, pc, ?_, HPT.out.below hb3⟩, by omega, by rw [HM.out]; omega, Nat.zero_le _, HPO.out.2⟩
      rw [← hW3, HM.out]
      exact Blk.new _ _ _ _ (by simp)
    have hsb3 : Blk W3 w.heap.size #[.int .i64 0, .int .i64 0, .int .i64 0, .int .i64 0] 31 := HSB.out.below hb3 (by omega)
    have hT3 : Tabs w.heap.size W3 := HT.out.below (HB2.out.trans (hb3.mono (by omega)))
    have HB3 := Lib.hid (HB2.out.trans (hb3.mono (by omega)))
    have HSB3 := Lib.hid hsb3
    have HT3 := Lib.hid hT3
    have hsk := skip_any (w2.heap.size + 1) w2.heap.size 0 l 0 U.zero W3 hrd3
    have HSK := Lib.hid hsk
    clear hW3 hb3 hrd3 hsb3 hT3 hsk
    refine HSK.out.mono ?_
    rintro _ w4 ⟨rfl, j0, _, hsk0, hrd4, hk4⟩
    have hw4 := hk4.size
    have HRD4 := Lib.hid hrd4
    have HK4 := Lib.hid hk4
    have HSK0 := Lib.hid hsk0
    clear hrd4 hk4 hsk0
    go_wp2
    go_loopw [7] (fun u wr => ∃ (j : Nat) (acc : List T.Tok) (f : Nat), ReadAt wr (w2.heap.size + 1) w2.heap.size l j 0 U.zero ∧ Keep (w2.heap.size + 1) W3 wr ∧ wr.ownsRow (w2.heap.size + 2) 42 6 u acc.length (toksCells acc) ∧ acc.length ≤ j ∧ m ≤ f + j ∧ Hid (R = joinT acc (toksS f (l.drop j)))) (fun _ wr => m - posOf (w2.heap.size + 1) wr)
    case atStart =>
      refine ⟨j0, [], m, HRD4.out, HK4.out, World.ownsRow_nil _ _ _ _, by simp, by omega, ?_⟩
      show _ = _
      rw [joinT_nil, ← HSK0.out, List.drop_zero, ← toks_succ]
      exact HRR.out
    case round =>
      obtain ⟨j, acc, f, hrd, hkp, hown, haj, hfm, HJ⟩ := hrel
      have hpos := hrd.pos
      obtain ⟨oa, cp, hv'⟩ := own_slice hown
      subst hv'
      have hsz := hkp.size
      obtain ⟨a3, c3, ⟨d0, d1, d2, d3, d4, d5⟩, hf, _⟩ := hrd.cells
      have hjm : j ≤ m := by rw [← HM.out]; exact hrd.i_le
      clear hf
      have hrs := HSB3.out.keep hkp (by omega)
      have HRD := Lib.hid hrd
      have HKP := Lib.hid hkp
      have HOWN := Lib.hid hown
      have HRS := Lib.hid hrs
      clear hrd hkp hown hrs
      by_cases hlt : j < m
      · have hjl : j < l.length := by rw [HM.out]; exact hlt
        have hdj : decide (j < m) = true := decide_eq_true hlt
        obtain ⟨Rs, hRs⟩ : ∃ Rs, T.token (l.drop j) = Rs := ⟨_, rfl⟩
        have hcall := token_any w.heap.size (w2.heap.size + 1) w2.heap.size j l U.zero wr (HT3.out.below (HKP.out.low (by omega) (by omega))) (by omega) HRD.out hjl
        rw [hRs] at hcall
        have HRs := Lib.hid hRs
        have HCALL := Lib.hid hcall
        clear hRs hcall d0 d2 d3 d4 d5
        go_wp2_with fail
        refine HCALL.out.mono ?_
        rintro o w5 htell
        cases Rs with
        | ok t n =>
          obtain ⟨rfl, hr5, hk5⟩ := htell
          have hcons := List.drop_eq_getElem_cons hjl
          have hn1 : 1 ≤ n := token_n _ _ _ _ (by rw [← hcons]; exact HRs.out)
          have hs5 := hk5.size
          obtain ⟨a5, c5, ⟨e0, e1, e2, e3, e4, e5⟩, _, _⟩ := hr5.cells
          have hown5 := own_keep HOWN.out (fun g hg => hk5.block g (HOWN.out.lt g hg).2 (by have := (HOWN.out.lt g hg).1; omega))
          have HR5 := Lib.hid hr5
          have HK5 := Lib.hid (HKP.out.trans hk5)
          have HOWN5 := Lib.hid hown5
          clear hr5 hk5 hown5 e0 e1 e3 e4 e5 hcons
          have hb65 : ∀ (w6 : World) (o1 o2 : Obj), ((w5.alloc o1).alloc o2).grownBy w6 (Value.slice oa acc.length cp).ownBlock → Below (w2.heap.size + 2) w5 w6 := fun w6 o1 o2 hgrow =>
            Below.grown (((Below.refl _ w5).alloc (by omega) _).alloc (by simp; omega) _) hgrow (by simp; omega) (fun k hk => (HOWN5.out.lt k hk).1)
          have HB65 := Lib.hid hb65
          have hwb : w2.heap.size + 1 < w5.heap.size := by omega
          have HPOS := Lib.hid hpos
          clear hb65 hpos
          unfold tokV
          go_wp2_with (at_builtin; refine wpList_append_own _ rfl _ _ 22 rfl (w2.heap.size + 2) 42 i0 (.agg #[.int .u8 0, .string ByteArray.empty, .int .i64 0, .int .i64 0, .int .i64 0, .int .i64 0]) 6 56 Tryz.underlying22 hi hz0 hz1 hz2 rfl (by decide) _ _ _ rfl ((HOWN5.out.alloc _).alloc _) ⟨w5.heap.size + 1, 0, none⟩ 1 1 (tokCells t) rfl rfl ?c1 ?c2 ?c3 ?c4 ?c5 ?_)
          case c1 => exact cells_new _ _ (tokCells t) _ (by simp)
          case c2 => intro u hu; simp [tokCells] at hu; rcases hu with rfl | rfl | rfl | rfl | rfl | rfl <;> rfl
          case c3 => unfold maxLen; omega
          case c4 => omega
          case c5 => simp; omega
          intro v' w6 hown' hgrow _
          have hb6 := HB65.out _ _ _ hgrow
          obtain ⟨oa6, cp6, hv6⟩ := own_slice hown'
          subst hv6
          have hrd6 := HR5.out.keepN hb6 (by omega)
          have HK6 := Lib.hid (HK5.out.belowN hb6 (by omega))
          have HOWN6 := Lib.hid hown'
          have HSK6 := Lib.hid (skip_any (w2.heap.size + 1) w2.heap.size (j + n) l 0 U.zero w6 hrd6)
          have hjn : j + n ≤ m := by have := HR5.out.i_le; rw [HM.out] at this; exact this
          clear hb6 hgrow hown' hrd6
          go_wp2_with fail
          refine HSK6.out.mono ?_
          rintro _ w7 ⟨rfl, j', hj', hsk7, hrd7, hk7⟩
          have hpos7 := hrd7.pos
          obtain ⟨f', rfl⟩ : ∃ f', f = f' + 1 := ⟨f - 1, by omega⟩
          have hjt := joinT_ok acc f' _ _ t n (by rw [← List.drop_eq_getElem_cons hjl]; exact HRs.out)
          rw [← List.drop_eq_getElem_cons hjl, List.drop_drop, hsk7] at hjt
          have HJT := Lib.hid (HJ.out.trans hjt)
          have HRD7 := Lib.hid hrd7
          have HKP7 := Lib.hid (HK6.out.trans hk7)
          have hown7 := own_keep HOWN6.out (fun g hg => hk7.block g (HOWN6.out.lt g hg).2 (by have := (HOWN6.out.lt g hg).1; omega))
          have HOWN7 := Lib.hid hown7
          clear hsk7 hrd7 hk7 hjt hown7
          go_wp2
          go_roundw
          case rel =>
            refine ⟨j', acc ++ [t], f', HRD7.out, HKP7.out, ?_, by rw [List.length_append]; simp; omega, by omega, HJT.out⟩
            rw [toksCells_snoc, List.length_append]
            exact HOWN7.out
          case measure =>
            rw [hpos7, HPOS.out]
            omega
        | bad EE q =>
          obtain ⟨⟨x1, x2, x3, x4, x5, x6, rfl⟩, ⟨jj, hr5⟩, hk5⟩ := htell
          have hE0 := token_e _ _ _ HRs.out
          have hEd : (EE == 0) = false := by rw [beq_eq_false_iff_ne]; exact hE0
          have hEn : (EE != 0) = true := by rw [bne_iff_ne]; exact hE0
          have hRR : R = ([], EE, q) := by
            rw [HJ.out, List.drop_eq_getElem_cons hjl]
            exact joinT_bad _ _ _ _ _ _ (by rw [← List.drop_eq_getElem_cons hjl]; exact HRs.out)
          subst hRR
          obtain ⟨a5, c5, ⟨e0, e1, e2, e3, e4, e5⟩, _, _⟩ := hr5.cells
          have hs5 := hk5.size
          have hrs6 := HRS.out.keep hk5 (by omega)
          have g0 := hrs6.cell 0; have k0 := hrs6.free 0
          have g1 := hrs6.cell 1; have k1 := hrs6.free 1
          have g2 := hrs6.cell 2; have k2 := hrs6.free 2
          have g3 := hrs6.cell 3; have k3 := hrs6.free 3
          simp only [List.getElem?_toArray, List.getElem?_cons_zero, List.getElem?_cons_succ] at g0 g1 g2 g3
          have hw5 : w.heap.size < w5.heap.size := by omega
          have hwb : w2.heap.size + 1 < w5.heap.size := by omega
          have HBW := Lib.hid (HB3.out.trans ((HKP.out.trans hk5).low (B := w.heap.size) (by omega) (by omega)))
          clear hrs6 hr5 hk5 hE0
          go_wp2
          go_region
          all_goals
            go_wp2
            refine bodyPost_ret (v := .tuple #[.slice none 0 0, .agg #[.int .i64 EE, .int .i64 q.a, .int .i64 q.l, .int .i64 q.c]]) (by simp [results, Tryz.results12, go_sem, g0, g1, g2, g3, hw5]) rfl ⟨_, rfl, ?_, World.ownsRow_nil _ _ _ _⟩
            (repeat (with_reducible first | exact HBW.out | refine Below.setCell ?_ ?_ _ | refine Below.alloc ?_ ?_ _ | refine Below.drewN ?_ _ | refine Below.drew ?_)) <;> first | omega | (simp; omega) | (simp; done)
      · have hdj : decide (j < m) = false := decide_eq_false hlt
        have hRR : R = (acc, 0, U.zero) := by
          rw [HJ.out, List.drop_of_length_le (by rw [HM.out]; omega)]
          exact joinT_end _ _
        subst hRR
        have hrs6 := HRS.out
        have g0 := hrs6.cell 0; have k0 := hrs6.free 0
        have g1 := hrs6.cell 1; have k1 := hrs6.free 1
        have g2 := hrs6.cell 2; have k2 := hrs6.free 2
        have g3 := hrs6.cell 3; have k3 := hrs6.free 3
        simp only [List.getElem?_toArray, List.getElem?_cons_zero, List.getElem?_cons_succ] at g0 g1 g2 g3
        have hw5 : w.heap.size < wr.heap.size := by omega
        have HBW := Lib.hid (HB3.out.trans (HKP.out.low (B := w.heap.size) (by omega) (by omega)))
        clear hrs6 d0 d2 d3 d4 d5
        go_wp2
        refine bodyPost_ret (v := .tuple #[.slice oa acc.length cp, .agg #[.int .i64 0, .int .i64 0, .int .i64 0, .int .i64 0]]) (by simp [results, Tryz.results12, go_sem, g0, g1, g2, g3]) rfl ⟨_, rfl, ?_, ?_⟩
        · (repeat (with_reducible first | exact HBW.out | refine Below.setCell ?_ ?_ _ | refine Below.alloc ?_ ?_ _ | refine Below.drewN ?_ _ | refine Below.drew ?_)) <;> first | omega | (simp; omega) | (simp; done)
        · refine own_base (base := w2.heap.size + 2) ?_ (by omega)
          repeat (with_reducible first | exact HOWN.out | refine own_drew ?_ | refine ownsRow_setCell_below ?_ (by simp <;> omega) _ | refine World.ownsRow.alloc ?_ _)
  · have hEd : (E == 0) = false := by rw [beq_eq_false_iff_ne]; omega
    have hEn : (E != 0) = true := by rw [bne_iff_ne]; omega
    have hRR : R = ([], E, Q) := by rw [HR2.out, if_neg (by omega)]
    subst hRR
    have g0 := hsb.cell 0; have k0 := hsb.free 0; have g1 := hsb.cell 1; have k1 := hsb.free 1; have g2 := hsb.cell 2; have k2 := hsb.free 2; have g3 := hsb.cell 3; have k3 := hsb.free 3
    simp only [List.getElem?_toArray, List.getElem?_cons_zero, List.getElem?_cons_succ] at g0 g1 g2 g3
    have hw2 : w.heap.size < w2.heap.size := by omega
    have HB2 := Lib.hid (HB1.out.trans (hb2.mono (by omega)))
    clear hsb hb2 hown2
    go_wp2
    go_region
    all_goals
      go_wp2
      refine bodyPost_ret (v := .tuple #[.slice none 0 0, .agg #[.int .i64 E, .int .i64 Q.a, .int .i64 Q.l, .int .i64 Q.c]]) (by simp [results, Tryz.results12, go_sem, g0, g1, g2, g3, hw2]) rfl ⟨_, rfl, ?_, World.ownsRow_nil _ _ _ _⟩
      (repeat (with_reducible first | exact HB2.out | refine Below.setCell ?_ ?_ _ | refine Below.alloc ?_ ?_ _ | refine Below.drewN ?_ _ | refine Below.drew ?_)) <;> first | omega | (simp; omega) | (simp; done)
end Go.Proofs.YtaojgcioljcpmaaGreatDoor
