/- The reference's Points and Same (layer 9). -/
import Derived.Test.YthhphmhddeoagaaDoorUtfE
namespace Go.Proofs.YthhphmhddeoagaaDoor
open Go.RowKit

structure RRel (w : World) (s : ByteArray) (wr : World) (v : Value) (i b : Nat) (acc : List U.Pt) (p : U.Pos) : Prop where
  hat : Blk wr (w.heap.size + 2) #[.int .i64 (i : Int), .int .i64 p.l, .int .i64 p.c] 26
  hr1 : Blk wr w.heap.size #[.int .i64 0, .int .i64 0, .int .i64 0] 26
  hr2 : Blk wr (w.heap.size + 1) #[.int .i64 0, .int .i64 0, .int .i64 0, .int .i64 0] 28
  hown : wr.ownsRow (w.heap.size + 3) 42 4 v acc.length (ptsCells acc)
  hbel : Below w.heap.size w wr
  hsz : w.heap.size + 3 ≤ wr.heap.size
  sc1 : acc ++ (U.scan s.data.toList b i p).1 = (U.all s.data.toList).1
  sc2 : (U.scan s.data.toList b i p).2 = (U.all s.data.toList).2
  hb : s.data.toList.length ≤ i + b
  hpa : p.a = i
  hi : i ≤ s.size
  hpl : 1 ≤ p.l ∧ p.l ≤ i + 1
  hpc : 1 ≤ p.c ∧ p.c ≤ i + 1
  hacc : acc.length ≤ i

theorem widthZ_dec (b : List UInt8) (hb : 0 < b.length) (hg : U.bad b = false) : widthZ (U.dec b).1 = (U.dec b).2 := by
  obtain ⟨h1, h2, h3⟩ := U.enc_dec b hb hg
  have := U.enc_len_of _ h1
  rw [h2, List.length_take] at this
  unfold widthZ
  omega

theorem next_a (p : U.Pos) (r z : Int) : (U.next p r z).a = p.a + z := by unfold U.next; split <;> rfl

set_option maxHeartbeats 1000000 in
theorem rPoints_short (s : ByteArray) (w : World) (hs : s.size ≤ 4000) :
    Calls Tryd.prog 11 #[.string s] w fun e w' => ∃ v,
      e = .returned (.tuple #[v, posV (U.endP s.data.toList), diagV (U.eE s.data.toList) (U.eP s.data.toList)]) ∧ Below w.heap.size w w' ∧ w'.ownsRow w.heap.size 42 4 v (U.pts s.data.toList).length (ptsCells (U.pts s.data.toList)) := by
  have hl : ¬ (4000 : Int) < (s.size : Int) := by omega
  have hlen : s.data.toList.length = s.size := by rw [Array.length_toList]; rfl
  obtain ⟨i0, hi0, hz0, hz1, hz2⟩ := info_parts info42
  go_enter Tryd.func11, Tryd.ntmps11
  go_wp2
  go_loopw [5] (fun v wr => ∃ i b acc p, RRel w s wr v i b acc p) (fun _ wr => match wr.cell? ⟨w.heap.size + 2, 0, none⟩ with | some (.int _ n) => s.size - n.toNat | _ => 0)
  case atStart =>
    refine ⟨0, s.data.toList.length, [], U.start, Blk.new _ _ _ _ (by simp), ((Blk.new w _ _ _ rfl).alloc _).alloc _, (Blk.new _ _ _ _ (by simp)).alloc _, World.ownsRow_nil _ _ _ _, ?_, by simp, rfl, rfl, by omega, rfl, by omega, by simp [U.start], by simp [U.start], by simp⟩
    exact (((Below.refl _ _).alloc (Nat.le_refl _) _).alloc (by simp) _).alloc (by simp; omega) _
  case round =>
    obtain ⟨i, b, acc, p, R⟩ := hrel
    have c0 : wr.cell? ⟨w.heap.size + 2, 0, none⟩ = some (.int .i64 (i : Int)) := R.hat.cell 0
    have hi := R.hi
    by_cases hlt : i < s.size
    · have hlt' : (i : Int) < (s.size : Int) := by omega
      have hd := U.dec_le (s.data.toList.drop i)
      have cone := one_any s i wr (by omega) hlt
      obtain ⟨n, hn⟩ : ∃ n, U.one (s.data.toList.drop i) = n := ⟨_, rfl⟩
      rw [hn] at cone
      by_cases hbad : U.bad (s.data.toList.drop i) = true
      · have hn1 : n = -1 := by rw [← hn]; simp [U.one, hbad]
        subst hn1
        have HR := Lib.hid R
        have HD := Lib.hid hn
        clear R hn hd
        go_wp2_with (go_at_call 18; refine cone.mono ?_; rintro e w1 ⟨rfl, hb1⟩)
        have kat := HR.out.hat.below hb1 (by have := HR.out.hsz; omega)
        have kr1 := HR.out.hr1.below hb1 (by have := HR.out.hsz; omega)
        have kr2 := HR.out.hr2.below hb1 (by have := HR.out.hsz; omega)
        have kown := own_below HR.out.hown hb1 (Nat.le_refl _)
        have kbel : Below w.heap.size w w1 := below_call HR.out.hbel hb1
        have b0 : w1.cell? ⟨w.heap.size + 2, 0, none⟩ = some (.int .i64 (i : Int)) := kat.cell 0
        have b1 : w1.cell? ⟨w.heap.size + 2, 1, none⟩ = some (.int .i64 p.l) := kat.cell 1
        have b2 : w1.cell? ⟨w.heap.size + 2, 2, none⟩ = some (.int .i64 p.c) := kat.cell 2
        have m0 : w1.cell? ⟨w.heap.size, 0, none⟩ = some (.int .i64 0) := kr1.cell 0
        have m1 : w1.cell? ⟨w.heap.size, 1, none⟩ = some (.int .i64 0) := kr1.cell 1
        have m2 : w1.cell? ⟨w.heap.size, 2, none⟩ = some (.int .i64 0) := kr1.cell 2
        have n0 : w1.cell? ⟨w.heap.size + 1, 0, none⟩ = some (.int .i64 0) := kr2.cell 0
        have n1 : w1.cell? ⟨w.heap.size + 1, 1, none⟩ = some (.int .i64 0) := kr2.cell 1
        have n2 : w1.cell? ⟨w.heap.size + 1, 2, none⟩ = some (.int .i64 0) := kr2.cell 2
        have n3 : w1.cell? ⟨w.heap.size + 1, 3, none⟩ = some (.int .i64 0) := kr2.cell 3
        have f0 := kr1.free 0
        have f1 := kr1.free 1
        have f2 := kr1.free 2
        have g0 := kr2.free 0
        have g1 := kr2.free 1
        have g2 := kr2.free 2
        have g3 := kr2.free 3
        go_region
        all_goals
          go_wp2
          have hb := HR.out.hb
          have hpa := HR.out.hpa
          cases b with
          | zero => omega
          | succ b =>
            have e := U.scan_bad s.data.toList b i p (by omega) hbad
            have q1 := HR.out.sc1
            have q2 := HR.out.sc2
            rw [e] at q1 q2
            have hne : ¬ 4000 < s.data.toList.length := by omega
            have hE : U.eE s.data.toList = 90 := by simp only [U.eE, ← q2, if_neg hne]; rfl
            have hP : U.eP s.data.toList = p := by simp only [U.eP, ← q2, if_neg hne]; rfl
            have hEnd : U.endP s.data.toList = U.zero := by simp only [U.endP, ← q2, if_neg hne]; rfl
            have hPts : U.pts s.data.toList = [] := by simp only [U.pts, ← q2, if_neg hne]; rfl
            rw [hE, hP, hEnd, hPts]
            unfold posV diagV
            rw [hpa]
            refine bodyPost_ret (v := .tuple #[.slice none 0 0, .agg #[.int .i64 0, .int .i64 0, .int .i64 0], .agg #[.int .i64 90, .int .i64 i, .int .i64 p.l, .int .i64 p.c]]) (by simp [results, Tryd.results11, go_sem, m0, m1, m2, n0, n1, n2, n3]) rfl ⟨_, rfl, ?_, World.ownsRow_nil _ _ _ _⟩
            repeat (with_reducible first | exact kbel | refine Below.drew ?_ | refine Below.setCell ?_ (by simp <;> omega) _)
      · have hg : U.bad (s.data.toList.drop i) = false := by simpa using hbad
        obtain ⟨d, hdd⟩ : ∃ d, U.dec (s.data.toList.drop i) = d := ⟨_, rfl⟩
        have hn1 : n = d.1 := by rw [← hn, ← hdd]; simp [U.one, hg]
        subst hn1
        rw [hdd] at hd
        obtain ⟨hd1, hd2, hd3⟩ := hd
        have hn0 : (0 : Int) ≤ (d.1 : Int) := by omega
        have hn2 : (d.1 : Int) ≤ 1114111 := by omega
        have hpl := R.hpl
        have hpc := R.hpc
        have hacc := R.hacc
        have hwz := widthZ_dec (s.data.toList.drop i) (by rw [List.length_drop]; omega) hg
        rw [hdd] at hwz
        have hpe : (⟨(i : Int), p.l, p.c⟩ : U.Pos) = p := by rw [← R.hpa]
        obtain ⟨q, hq⟩ : ∃ q, U.next p d.1 d.2 = q := ⟨_, rfl⟩
        have hqa : q.a = ((i + d.2 : Nat) : Int) := by rw [← hq, next_a, R.hpa]; omega
        have cn : ∀ W : World, Calls Tryd.prog 19 #[.agg #[.int .i64 (i : Int), .int .i64 p.l, .int .i64 p.c], .int .i64 d.1] W fun e w' => e = .returned (.agg #[.int .i64 ((i + d.2 : Nat) : Int), .int .i64 q.l, .int .i64 q.c]) ∧ Below W.heap.size W w' := fun W => by
          have h := rnext_any i p.l p.c d.1 W (by omega)
          rw [hwz, hpe, hq] at h
          unfold posV at h
          rw [hqa] at h
          exact h
        have HR := Lib.hid R
        have HD := Lib.hid hdd
        have HN := Lib.hid hn
        have HQ := Lib.hid hq
        have HQA := Lib.hid hqa
        have HPE := Lib.hid hpe
        clear R hn hdd hq hqa hpe hwz
        go_wp2_with (first | (go_at_call 18; refine cone.mono ?_; rintro e w1 ⟨rfl, hb1⟩; have hat1 := HR.out.hat.below hb1 (by have := HR.out.hsz; omega); have d0 : w1.cell? ⟨w.heap.size + 2, 0, none⟩ = some (.int .i64 (i : Int)) := hat1.cell 0; have d1 : w1.cell? ⟨w.heap.size + 2, 1, none⟩ = some (.int .i64 p.l) := hat1.cell 1; have d2 : w1.cell? ⟨w.heap.size + 2, 2, none⟩ = some (.int .i64 p.c) := hat1.cell 2) | (at_builtin; refine wpList_append_own _ rfl _ _ 23 rfl (w.heap.size + 3) 42 i0 (.agg #[.int .i32 0, .int .i64 0, .int .i64 0, .int .i64 0]) 4 32 Tryd.underlying23 hi0 hz0 hz1 hz2 rfl (by decide) _ _ _ rfl ((own_below HR.out.hown hb1 (Nat.le_refl _)).alloc _) ⟨w1.heap.size, 0, none⟩ 1 1 (ptCells ⟨d.1, ⟨i, p.l, p.c⟩⟩) rfl rfl ?c1 ?c2 ?c3 ?c4 ?c5 ?_))
        case c1 => exact cells_new _ _ (ptCells ⟨d.1, ⟨i, p.l, p.c⟩⟩) _ rfl
        case c2 => intro u hu; simp [ptCells] at hu; rcases hu with rfl | rfl | rfl | rfl <;> rfl
        case c3 => unfold maxLen; omega
        case c4 => omega
        case c5 => have h1 := HR.out.hsz; have h2 := hb1.size; simp; omega
        intro v' w2 hown' hgrow _
        have hs1 := hb1.size
        have hsz := HR.out.hsz
        have hs2 := hgrow.size
        simp only [World.size_alloc] at hs2
        have own1 := own_below HR.out.hown hb1 (Nat.le_refl _)
        have hne : ∀ k, k < w.heap.size + 3 → some k ≠ u5.ownBlock := fun k hk e => by have := (own1.lt k e.symm).1; omega
        have hold : ∀ k, k < w.heap.size + 3 → w2.heap[k]? = w1.heap[k]? := fun k hk => by
          rw [hgrow.block k (by simp; omega) (hne k hk), Below.heap_alloc _ _ _ (by omega)]
        have hat2 : Blk w2 (w.heap.size + 2) _ _ := hat1.of (hold _ (by omega))
        have hbel2 : Below w.heap.size w w2 := ((below_call HR.out.hbel hb1).alloc (by omega) _).grown hgrow (by simp; omega) (fun k hk => by have := (own1.lt k hk).1; omega)
        have x0 : w2.cell? ⟨w.heap.size + 2, 0, none⟩ = some (.int .i64 (i : Int)) := hat2.cell 0
        have x1 : w2.cell? ⟨w.heap.size + 2, 1, none⟩ = some (.int .i64 p.l) := hat2.cell 1
        have x2 : w2.cell? ⟨w.heap.size + 2, 2, none⟩ = some (.int .i64 p.c) := hat2.cell 2
        obtain ⟨oa, cp, hv'⟩ := own_slice hown'
        subst hv'
        go_wp2_with (go_at_call 19; refine (cn _).mono ?_; rintro e w7 ⟨rfl, hb7⟩; have hat7 := hat2.below hb7 (by omega); have y0 : w7.cell? ⟨w.heap.size + 2, 0, none⟩ = some (.int .i64 (i : Int)) := hat7.cell 0; have y1 : w7.cell? ⟨w.heap.size + 2, 1, none⟩ = some (.int .i64 p.l) := hat7.cell 1; have y2 : w7.cell? ⟨w.heap.size + 2, 2, none⟩ = some (.int .i64 p.c) := hat7.cell 2; have f0 := hat7.free 0; have f1 := hat7.free 1; have f2 := hat7.free 2)
        go_roundw
        case rel =>
          have hs7 := hb7.size
          have hb := HR.out.hb
          have hold7 : ∀ k, k < w.heap.size + 3 → w7.heap[k]? = wr.heap[k]? := fun k hk => by
            rw [hb7.block k (by omega), hold k hk, hb1.block k (by omega)]
          cases b with
          | zero => omega
          | succ b =>
            have e := U.scan_good s.data.toList b i p (by omega) hg
            rw [HD.out, HQ.out] at e
            have q1 := HR.out.sc1
            have q2 := HR.out.sc2
            rw [e] at q1 q2
            have hz := U.enc_dec (s.data.toList.drop i) (by rw [List.length_drop]; omega) hg
            rw [List.length_drop, HD.out] at hz
            refine ⟨i + d.2, b, acc ++ [(⟨d.1, p⟩ : U.Pt)], q, ((hat7.set 0 _).set 1 _).set 2 _, ?_, ?_, ?_, ?_, ?_, ?_, q2, by omega, HQA.out, by omega, ?_, ?_, ?_⟩
            · exact (((HR.out.hr1.of (hold7 _ (by omega))).setOther (by simp; omega) _).setOther (by simp; omega) _).setOther (by simp; omega) _
            · exact (((HR.out.hr2.of (hold7 _ (by omega))).setOther (by simp <;> omega) _).setOther (by simp <;> omega) _).setOther (by simp <;> omega) _
            · have h0 := own_below hown' hb7 (Nat.le_refl _)
              rw [HPE.out] at h0
              rw [List.length_append, List.length_singleton, ptsCells_snoc]
              exact ownsRow_setCell_below (ownsRow_setCell_below (ownsRow_setCell_below h0 (by simp) _) (by simp) _) (by simp) _
            · exact ((((below_call hbel2 hb7)).setCell (p := ⟨w.heap.size + 2, 0, none⟩) (by simp <;> omega) _).setCell (p := ⟨w.heap.size + 2, 1, none⟩) (by simp <;> omega) _).setCell (p := ⟨w.heap.size + 2, 2, none⟩) (by simp <;> omega) _
            · simp [World.setCell]; omega
            · rw [← q1]; simp
            · rw [← HQ.out]; unfold U.next; split <;> simp only <;> omega
            · rw [← HQ.out]; unfold U.next; split <;> simp only <;> omega
            · rw [List.length_append, List.length_singleton]; omega
        case measure =>
          have z0 := (((hat7.set 0 (.int .i64 ((i : Int) + (d.2 : Int)))).set 1 (.int .i64 q.l)).set 2 (.int .i64 q.c)).cell 0
          have z1 : (((w7.setCell ⟨w.heap.size + 1 + 1, 0, none⟩ (.int .i64 ((i : Int) + (d.2 : Int)))).setCell ⟨w.heap.size + 1 + 1, 1, none⟩ (.int .i64 q.l)).setCell ⟨w.heap.size + 1 + 1, 2, none⟩ (.int .i64 q.c)).cell? ⟨w.heap.size + 2, 0, none⟩ = some (.int .i64 ((i : Int) + (d.2 : Int))) := z0
          rw [z1, c0]
          simp only
          omega
    · have kat := R.hat
      have kr1 := R.hr1
      have kr2 := R.hr2
      have kown := R.hown
      have kbel : Below w.heap.size w wr := R.hbel
      have b0 : wr.cell? ⟨w.heap.size + 2, 0, none⟩ = some (.int .i64 (i : Int)) := kat.cell 0
      have b1 : wr.cell? ⟨w.heap.size + 2, 1, none⟩ = some (.int .i64 p.l) := kat.cell 1
      have b2 : wr.cell? ⟨w.heap.size + 2, 2, none⟩ = some (.int .i64 p.c) := kat.cell 2
      have m0 : wr.cell? ⟨w.heap.size, 0, none⟩ = some (.int .i64 0) := kr1.cell 0
      have m1 : wr.cell? ⟨w.heap.size, 1, none⟩ = some (.int .i64 0) := kr1.cell 1
      have m2 : wr.cell? ⟨w.heap.size, 2, none⟩ = some (.int .i64 0) := kr1.cell 2
      have n0 : wr.cell? ⟨w.heap.size + 1, 0, none⟩ = some (.int .i64 0) := kr2.cell 0
      have n1 : wr.cell? ⟨w.heap.size + 1, 1, none⟩ = some (.int .i64 0) := kr2.cell 1
      have n2 : wr.cell? ⟨w.heap.size + 1, 2, none⟩ = some (.int .i64 0) := kr2.cell 2
      have n3 : wr.cell? ⟨w.heap.size + 1, 3, none⟩ = some (.int .i64 0) := kr2.cell 3
      have f0 := kr1.free 0
      have f1 := kr1.free 1
      have f2 := kr1.free 2
      have g0 := kr2.free 0
      have g1 := kr2.free 1
      have g2 := kr2.free 2
      have g3 := kr2.free 3
      have hlt' : ¬ ((i : Int) < (s.size : Int)) := by omega
      have HR := Lib.hid R
      obtain ⟨oa, cp, hv'⟩ := own_slice kown
      subst hv'
      have HO := Lib.hid kown
      clear R kown
      go_wp2
      go_region
      all_goals
        go_wp2
        have e := U.scan_end s.data.toList b i p (by omega)
        have q1 := HR.out.sc1
        have q2 := HR.out.sc2
        have hpa := HR.out.hpa
        rw [e] at q1 q2
        have hne : ¬ 4000 < s.data.toList.length := by omega
        have hE : U.eE s.data.toList = 0 := by simp only [U.eE, ← q2, if_neg hne]; rfl
        have hP : U.eP s.data.toList = U.zero := by simp only [U.eP, ← q2, if_neg hne]; rfl
        have hEnd : U.endP s.data.toList = p := by simp only [U.endP, ← q2, if_neg hne]; rfl
        have hPts : U.pts s.data.toList = (U.all s.data.toList).1 := by simp only [U.pts, ← q2, if_neg hne]; rfl
        simp only [List.append_nil] at q1
        rw [hE, hP, hEnd, hPts, ← q1]
        unfold posV diagV
        rw [hpa]
        refine bodyPost_ret (v := .tuple #[.slice oa acc.length cp, .agg #[.int .i64 i, .int .i64 p.l, .int .i64 p.c], .agg #[.int .i64 0, .int .i64 0, .int .i64 0, .int .i64 0]]) (by simp [results, Tryd.results11, go_sem, m0, m1, m2, n0, n1, n2, n3]) rfl ⟨_, rfl, ?_, ?_⟩
        · repeat (with_reducible first | exact kbel | refine Below.drew ?_ | refine Below.setCell ?_ (by simp <;> omega) _)
        · refine own_base (base := w.heap.size + 3) ?_ (by omega)
          have h0 := HO.out
          repeat (with_reducible first | exact h0 | refine own_drew ?_ | refine ownsRow_setCell_below ?_ (by simp <;> omega) _)

set_option maxHeartbeats 400000 in
theorem rPoints_any (s : ByteArray) (w : World) (hs : s.size ≤ 20000) :
    Calls Tryd.prog 11 #[.string s] w fun e w' => ∃ v,
      e = .returned (.tuple #[v, posV (U.endP s.data.toList), diagV (U.eE s.data.toList) (U.eP s.data.toList)]) ∧ Below w.heap.size w w' ∧ w'.ownsRow w.heap.size 42 4 v (U.pts s.data.toList).length (ptsCells (U.pts s.data.toList)) := by
  by_cases hl : s.size ≤ 4000
  · exact rPoints_short s w hl
  · obtain ⟨e1, e2, e3, e4⟩ := spec_long s.data.toList (by rw [Array.length_toList]; exact Nat.lt_of_not_le hl)
    rw [e1, e2, e3, e4]
    have hl' : (4000 : Int) < (s.size : Int) := by omega
    clear e1 e2 e3 e4
    go_enter Tryd.func11, Tryd.ntmps11
    go_wp2
    refine bodyPost_ret (v := .tuple #[.slice none 0 0, .agg #[.int .i64 0, .int .i64 0, .int .i64 0], .agg #[.int .i64 3, .int .i64 0, .int .i64 0, .int .i64 0]]) (by simp [results, Tryd.results11, go_sem]) rfl ⟨_, rfl, ?_, World.ownsRow_nil _ _ _ _⟩
    exact ((Below.refl _ _).alloc (Nat.le_refl _) _).alloc (by simp) _
end Go.Proofs.YthhphmhddeoagaaDoor
