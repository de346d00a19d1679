/- The walks of the laws UtfPoints and UtfPuts. -/
import Derived.Test.YthhphmhddeoagaaDoorUtfJ
namespace Go.Proofs.YthhphmhddeoagaaDoor
open Go.RowKit

theorem scan_len (s : List UInt8) : ∀ f i p, (U.scan s f i p).1.length ≤ f
  | 0, _, _ => by simp [U.scan]
  | f + 1, i, p => by
    by_cases h : i < s.length
    · by_cases hb : U.bad (s.drop i) = true
      · rw [U.scan_bad s f i p h hb]; simp
      · rw [U.scan_good s f i p h (by simpa using hb), List.length_cons]
        exact Nat.succ_le_succ (scan_len s f _ _)
    · rw [U.scan_end s (f + 1) i p h]; simp
theorem pts_len (s : List UInt8) : (U.pts s).length ≤ 4000 := by
  unfold U.pts
  split
  · simp
  · split
    · have := scan_len s s.length 0 U.start
      unfold U.all; omega
    · simp

set_option maxHeartbeats 2000000 in
theorem UtfPoints_walk (s : ByteArray) (w : World) (hs : s.size ≤ maxLen) (hT : Lib.Utf8Tabs 0 1 w) (h2 : 2 ≤ w.heap.size) :
    Calls Tryd.prog 3 #[.string s] w fun e w' => e = .returned (.bool true) ∧ Below w.heap.size w w' := by
  have hsm : s.size ≤ 9223372036854775807 := by unfold maxLen at hs; omega
  have ck := known_any w hT h2
  have HT := Lib.hid hT
  clear hT
  by_cases hl : 10000 < s.size
  · have hl' : (10000 : Int) < (s.size : Int) := by omega
    go_enter Tryd.func3, Tryd.ntmps3
    go_wp2_with (go_at_call 8; refine ck.mono ?_; rintro e w1 ⟨rfl, hb1⟩)
    go_ret
    exact ⟨rfl, hb1⟩
  · have hl' : ¬ (10000 : Int) < (s.size : Int) := by omega
    have cP := fun W hT2 h => Points_any s W hs hT2 h
    have cE := fun W hT2 h => End_any s W hs hT2 h
    have cR := fun W => rPoints_any s W (by omega)
    obtain ⟨E, hE⟩ : ∃ z, U.eE s.data.toList = z := ⟨_, rfl⟩
    obtain ⟨P, hP⟩ : ∃ z, U.eP s.data.toList = z := ⟨_, rfl⟩
    obtain ⟨Q, hQ⟩ : ∃ z, U.endP s.data.toList = z := ⟨_, rfl⟩
    obtain ⟨L, hL⟩ : ∃ z, U.pts s.data.toList = z := ⟨_, rfl⟩
    have hLl : L.length ≤ 20000 := by
      have := pts_len s.data.toList
      rw [hL] at this
      omega
    rw [hE, hP, hL] at cP
    rw [hE, hP, hQ] at cE
    rw [hE, hP, hQ, hL] at cR
    unfold posV diagV at cE cR
    unfold diagV at cP
    have HP := Lib.hid cP
    have HE := Lib.hid cE
    have HR := Lib.hid cR
    clear cP cE cR hE hP hQ hL
    go_enter Tryd.func3, Tryd.ntmps3
    go_wp2_with (go_at_call 8; refine ck.mono ?_; rintro e w1 ⟨rfl, hb1⟩; have s1 := hb1.size; fail)
    refine ck.mono ?_
    rintro e w1 ⟨rfl, hb1⟩
    have s1 := hb1.size
    go_wp2_with fail
    refine (HP.out _ (tabs_below w.heap.size HT.out hb1 h2) (by omega)).mono ?_
    rintro e w2 ⟨v2, rfl, hb2, own2⟩
    have y2 : Below w.heap.size w w2 := below_call hb1 hb2
    have s2 := hb2.size
    obtain ⟨o2, c2, hv2⟩ := own_slice own2
    subst hv2
    have r2 := Row.own own2 (Nat.le_refl _)
    clear own2
    go_wp2_with fail
    have x2 : Below w.heap.size w (w2.alloc (.cells #[.int .i64 E, .int .i64 P.a, .int .i64 P.l, .int .i64 P.c] 28)) := y2.alloc (by omega) _
    refine (HE.out _ (tabs_below w.heap.size HT.out x2 h2) (by simp; omega)).mono ?_
    rintro e w3 ⟨rfl, hb3⟩
    have y3 : Below w.heap.size w w3 := below_call x2 hb3
    have s3 := hb3.size
    simp only [World.size_alloc] at s3
    have d1 := (Blk.new w2 w2.heap.size #[.int .i64 E, .int .i64 P.a, .int .i64 P.l, .int .i64 P.c] 28 rfl).below hb3 (by simp)
    have r3 := r2.below (((Below.refl w2.heap.size w2).alloc (Nat.le_refl _) _).trans (hb3.mono (by simp)))
    go_wp2_with fail
    refine (HR.out _).mono ?_
    rintro e w4 ⟨v4, rfl, hb4, own4⟩
    have s4 := hb4.size
    simp only [World.size_alloc] at s4
    have x3 : Below w.heap.size w ((w3.alloc (.cells #[.int .i64 Q.a, .int .i64 Q.l, .int .i64 Q.c] 26)).alloc (.cells #[.int .i64 E, .int .i64 P.a, .int .i64 P.l, .int .i64 P.c] 28)) := (y3.alloc (by omega) _).alloc (by simp; omega) _
    have y4 : Below w.heap.size w w4 := below_call x3 hb4
    have hb4' : Below (w3.heap.size + 2) ((w3.alloc (.cells #[.int .i64 Q.a, .int .i64 Q.l, .int .i64 Q.c] 26)).alloc (.cells #[.int .i64 E, .int .i64 P.a, .int .i64 P.l, .int .i64 P.c] 28)) w4 := by simpa using hb4
    have d1b : Blk w4 w2.heap.size #[.int .i64 E, .int .i64 P.a, .int .i64 P.l, .int .i64 P.c] 28 := ((d1.alloc _).alloc _).below hb4' (by omega)
    have p3b : Blk w4 w3.heap.size #[.int .i64 Q.a, .int .i64 Q.l, .int .i64 Q.c] 26 := ((Blk.new w3 _ _ _ rfl).alloc _).below hb4' (by omega)
    have d3b : Blk w4 (w3.heap.size + 1) #[.int .i64 E, .int .i64 P.a, .int .i64 P.l, .int .i64 P.c] 28 := (Blk.new _ _ _ _ (by simp)).below hb4' (by omega)
    have r4 : Row w4 w2.heap.size 4 (.slice o2 L.length c2) L.length (ptsCells L) := r3.below ((((Below.refl w2.heap.size w3).alloc (by omega) _).alloc (by simp; omega) _).trans (hb4'.mono (by omega)))
    obtain ⟨o4, c4, hv4⟩ := own_slice own4
    subst hv4
    have r4b := Row.own own4 (Nat.le_refl _)
    clear own4
    go_wp2_with fail
    obtain ⟨w5, hw5⟩ : ∃ W, ((w4.alloc (.cells #[.int .i64 Q.a, .int .i64 Q.l, .int .i64 Q.c] 26)).alloc (.cells #[.int .i64 E, .int .i64 P.a, .int .i64 P.l, .int .i64 P.c] 28)) = W := ⟨_, rfl⟩
    rw [hw5]
    have k5 : Below w4.heap.size w4 w5 := by rw [← hw5]; exact ((Below.refl _ _).alloc (Nat.le_refl _) _).alloc (by simp) _
    have p5 : Blk w5 w4.heap.size #[.int .i64 Q.a, .int .i64 Q.l, .int .i64 Q.c] 26 := by rw [← hw5]; exact (Blk.new w4 _ _ _ rfl).alloc _
    have d5 : Blk w5 (w4.heap.size + 1) #[.int .i64 E, .int .i64 P.a, .int .i64 P.l, .int .i64 P.c] 28 := by rw [← hw5]; exact Blk.new _ _ _ _ (by simp)
    have y5 : Below w.heap.size w w5 := by rw [← hw5]; exact (y4.alloc (by omega) _).alloc (by simp; omega) _
    have s5 : w5.heap.size = w4.heap.size + 2 := by rw [← hw5]; simp
    clear hw5
    refine (same_any L _ _ w4.heap.size w5 hLl ((r4.mono (by omega)).below k5) (r4b.below k5)).mono ?_
    rintro e w6 ⟨rfl, hb6⟩
    have y6 : Below w.heap.size w w6 := below_call y5 hb6
    have d1c := (d1b.below k5 (by omega)).below hb6 (by omega)
    have p3c := (p3b.below k5 (by omega)).below hb6 (by omega)
    have d3c := (d3b.below k5 (by omega)).below hb6 (by omega)
    have p5c := p5.below hb6 (by omega)
    have d5c := d5.below hb6 (by omega)
    have a0 : w6.cell? ⟨w2.heap.size, 0, none⟩ = some (.int .i64 E) := d1c.cell 0
    have a1 : w6.cell? ⟨w2.heap.size, 1, none⟩ = some (.int .i64 P.a) := d1c.cell 1
    have a2 : w6.cell? ⟨w2.heap.size, 2, none⟩ = some (.int .i64 P.l) := d1c.cell 2
    have a3 : w6.cell? ⟨w2.heap.size, 3, none⟩ = some (.int .i64 P.c) := d1c.cell 3
    have b0 : w6.cell? ⟨w3.heap.size, 0, none⟩ = some (.int .i64 Q.a) := p3c.cell 0
    have b1 : w6.cell? ⟨w3.heap.size, 1, none⟩ = some (.int .i64 Q.l) := p3c.cell 1
    have b2 : w6.cell? ⟨w3.heap.size, 2, none⟩ = some (.int .i64 Q.c) := p3c.cell 2
    have c0 : w6.cell? ⟨w3.heap.size + 1, 0, none⟩ = some (.int .i64 E) := d3c.cell 0
    have c1 : w6.cell? ⟨w3.heap.size + 1, 1, none⟩ = some (.int .i64 P.a) := d3c.cell 1
    have c2 : w6.cell? ⟨w3.heap.size + 1, 2, none⟩ = some (.int .i64 P.l) := d3c.cell 2
    have c3 : w6.cell? ⟨w3.heap.size + 1, 3, none⟩ = some (.int .i64 P.c) := d3c.cell 3
    have d0 : w6.cell? ⟨w4.heap.size, 0, none⟩ = some (.int .i64 Q.a) := p5c.cell 0
    have d1 : w6.cell? ⟨w4.heap.size, 1, none⟩ = some (.int .i64 Q.l) := p5c.cell 1
    have d2 : w6.cell? ⟨w4.heap.size, 2, none⟩ = some (.int .i64 Q.c) := p5c.cell 2
    have e0 : w6.cell? ⟨w4.heap.size + 1, 0, none⟩ = some (.int .i64 E) := d5c.cell 0
    have e1 : w6.cell? ⟨w4.heap.size + 1, 1, none⟩ = some (.int .i64 P.a) := d5c.cell 1
    have e2 : w6.cell? ⟨w4.heap.size + 1, 2, none⟩ = some (.int .i64 P.l) := d5c.cell 2
    have e3 : w6.cell? ⟨w4.heap.size + 1, 3, none⟩ = some (.int .i64 P.c) := d5c.cell 3
    go_wp2
    go_ret
    exact ⟨rfl, y6⟩

set_option maxHeartbeats 1000000 in
theorem UtfPuts_walk (v : Value) (zs : List Int) (w : World) (hT : Lib.Utf8Tabs 0 1 w) (h2 : 2 ≤ w.heap.size)
    (hr : ∀ z ∈ zs, -2147483648 ≤ z ∧ z ≤ 2147483647) (hrow : Row w w.heap.size 1 v zs.length (i32Cells zs)) :
    Calls Tryd.prog 4 #[v] w fun e w' => e = .returned (.bool true) ∧ Below w.heap.size w w' := by
  have hsm : zs.length ≤ 9223372036854775807 := by have := hrow.2.1; unfold maxLen at this; omega
  have ck := known_any w hT h2
  clear hT
  by_cases hl : 5000 < zs.length
  · have hl' : (5000 : Int) < (zs.length : Int) := by omega
    obtain ⟨oa, cp, hv⟩ := hrow.slice
    subst hv
    clear hrow hr
    go_enter Tryd.func4, Tryd.ntmps4
    go_wp2_with (go_at_call 8; refine ck.mono ?_; rintro e w1 ⟨rfl, hb1⟩)
    go_ret
    exact ⟨rfl, hb1⟩
  · have hl' : ¬ (5000 : Int) < (zs.length : Int) := by omega
    have cP : ∀ W, Below w.heap.size w W → Calls Tryd.prog 13 #[v] W fun e w' => e = .returned (.tuple #[.string (U.putB zs), .int .i64 (U.putE zs)]) ∧ Below W.heap.size W w' := fun W hb =>
      Put_any v zs W (by omega) ((hrow.below hb).mono hb.size)
    have cR : ∀ W, Below w.heap.size w W → Calls Tryd.prog 14 #[v] W fun e w' => e = .returned (.tuple #[.string (U.putB zs), .int .i64 (U.putE zs)]) ∧ Below W.heap.size W w' := fun W hb =>
      rPut_any v zs W (by omega) hr ((hrow.below hb).mono hb.size)
    obtain ⟨S, hS⟩ : ∃ z, U.putB zs = z := ⟨_, rfl⟩
    obtain ⟨E, hE⟩ : ∃ z, U.putE zs = z := ⟨_, rfl⟩
    rw [hS, hE] at cP cR
    obtain ⟨oa, cp, hv⟩ := hrow.slice
    subst hv
    have HP := Lib.hid cP
    have HR := Lib.hid cR
    clear cP cR hS hE hrow hr
    go_enter Tryd.func4, Tryd.ntmps4
    go_wp2_with (first | (go_at_call 8; refine ck.mono ?_; rintro e w1 ⟨rfl, hb1⟩) | (go_at_call 13; refine (HP.out _ hb1).mono ?_; rintro e w2 ⟨rfl, hb2⟩; have y2 := below_call hb1 hb2) | (go_at_call 14; refine (HR.out _ y2).mono ?_; rintro e w3 ⟨rfl, hb3⟩; have y3 := below_call y2 hb3))
    go_ret
    exact ⟨rfl, y3⟩

end Go.Proofs.YthhphmhddeoagaaDoor
