/- utf.walk with End's function; Points; End: for every text. -/
import Derived.Test.YthhphmhddeoagaaDoorUtfB
namespace Go.Proofs.YthhphmhddeoagaaDoor
open Go.RowKit

set_option maxHeartbeats 1000000 in
theorem walk_end (s : ByteArray) (w : World) (hs : s.size ≤ maxLen) (hT : Lib.Utf8Tabs 0 1 w) (h2 : 2 ≤ w.heap.size)
    (hlong : ¬ 4000 < s.size) :
    Calls Tryd.prog 15 #[.string s, .func (.func 17) #[] #[]] w fun e w' =>
      e = .returned (.tuple #[.agg #[.int .i64 (U.endP s.data.toList).a, .int .i64 (U.endP s.data.toList).l, .int .i64 (U.endP s.data.toList).c],
        .agg #[.int .i64 (U.eE s.data.toList), .int .i64 (U.eP s.data.toList).a, .int .i64 (U.eP s.data.toList).l, .int .i64 (U.eP s.data.toList).c]]) ∧
      Below w.heap.size w w' := by
  have hlen0 : s.data.toList.length = s.size := by rw [Array.length_toList]; rfl
  unfold maxLen at hs
  have hl : ¬ (4000 : Int) < (s.size : Int) := by omega
  go_enter Tryd.func15, Tryd.ntmps15
  go_wp2_with (go_at_call 25; refine (start_any _).mono ?_; rintro e w1 ⟨rfl, hb1⟩)
  have hz1 := hb1.size
  simp only [World.size_alloc] at hz1
  go_loopw [] (fun wr => ∃ i b acc p, WalkRel w s w1.heap.size wr i b acc p ∧ Below w.heap.size w wr) (fun wr => s.size - wr.iterPos (w1.heap.size + 1))
  case atStart =>
    have hb1' := hb1
    simp only [World.size_alloc] at hb1'
    have hbw : Below w.heap.size w w1 := (((Below.refl w.heap.size w).alloc (Nat.le_refl _) _).alloc (by simp) _).trans (hb1'.mono (by omega))
    refine ⟨0, s.data.toList.length, [], U.start, ?_, ?_⟩
    · refine ⟨?_, ?_, ?_, ?_, by omega, by simp [World.iter], rfl, rfl, by omega, rfl, by omega, by simp [U.start], by simp [U.start], by simp⟩
      · have := heap_alloc_new (w1.alloc (.cells #[.int .i64 0, .int .i64 1, .int .i64 1] 26)) (.stringIter s 0)
        simpa [World.iter] using this
      · exact (Blk.new w1 w1.heap.size _ _ rfl).alloc _
      · exact ((Blk.below (((Blk.new w w.heap.size _ _ rfl)).alloc _) hb1' (by omega)).alloc _).alloc _
      · exact ((Blk.below (Blk.new _ (w.heap.size + 1) _ _ (by simp)) hb1' (by omega)).alloc _).alloc _
    · exact ((hbw.mono (by omega)).alloc (by omega) _).alloc (by simp; omega) _
  case round =>
    obtain ⟨i, b, acc, p, R, hbel⟩ := hrel
    by_cases hlt : i < s.size
    · have hnx0 : ∀ ty, (Instr.next (.pointer (some ⟨w1.heap.size + 1, 0, none⟩)) true ty).run Tryd.prog wr = _ := fun ty => Lib.run_next_any_at wr (w1.heap.size + 1) s i ty R.hit hlt
      rw [U.decode_dec] at hnx0
      obtain ⟨W1, hW1⟩ : ∃ W1, wr.iterAt (w1.heap.size + 1) s (i + (U.dec (s.data.toList.drop i)).2) = W1 := ⟨_, rfl⟩
      rw [hW1] at hnx0
      have hat1 : Blk W1 w1.heap.size #[.int .i64 p.a, .int .i64 p.l, .int .i64 p.c] 26 := by rw [← hW1]; exact R.hat.iterAt (by omega) _ _
      have c0 : W1.cell? ⟨w1.heap.size, 0, none⟩ = some (.int .i64 p.a) := hat1.cell 0
      have c1 : W1.cell? ⟨w1.heap.size, 1, none⟩ = some (.int .i64 p.l) := hat1.cell 1
      have c2 : W1.cell? ⟨w1.heap.size, 2, none⟩ = some (.int .i64 p.c) := hat1.cell 2
      have HW1 := Lib.hid hW1
      clear hW1
      obtain ⟨d, hd⟩ : ∃ d, U.dec (s.data.toList.drop i) = d := ⟨_, rfl⟩
      have dc : ∀ (W : World), Below w.heap.size w W → Calls Tryd.prog 27 #[.string (s.extract i s.size)] W fun e w' => e = .returned (.tuple #[.int .i32 d.1, .int .i64 d.2]) ∧ Below W.heap.size W w' := by
        intro W hW
        have := Tryd.utf8_DecodeRuneInString (s.extract i s.size) W (tabs_below w.heap.size hT hW h2)
        rw [decodeGo_extract s i hlt, hd] at this
        exact this
      rw [hd] at hnx0
      have hnx := hnx0
      clear hnx0
      by_cases hbad : U.bad (s.data.toList.drop i) = true
      · have hdd : d = (65533, 1) := by rw [← hd]; unfold U.bad at hbad; exact of_decide_eq_true hbad
        subst hdd
        have rl : ∀ W : World, Calls Tryd.prog 26 #[.int .i32 65533] W fun e w' => e = .returned (.int .i64 3) ∧ W = w' := fun W => 
          (Tryd.utf8_RuneLen _ W).mono fun e w' h => ⟨h.1, h.2.symm⟩
        have hbel1 : Below w.heap.size w W1 := by rw [← HW1.out]; exact Lib.below_iterAt hbel (by omega) _ _
        have hN2 := R.hN
        have hW1s : W1.heap.size = wr.heap.size := by rw [← HW1.out]; exact Lib.iterAt_size _ _ _ _
        have hr1 : Blk W1 w.heap.size #[.int .i64 0, .int .i64 0, .int .i64 0] 26 := by rw [← HW1.out]; exact R.hr1.iterAt (by omega) _ _
        have hr2 : Blk W1 (w.heap.size + 1) #[.int .i64 0, .int .i64 0, .int .i64 0, .int .i64 0] 28 := by rw [← HW1.out]; exact R.hr2.iterAt (by omega) _ _
        have HR := Lib.hid R
        have HD := Lib.hid hd
        clear R hd
        go_wp2_with (first | (go_at_call 26; refine (rl _).mono ?_; rintro e w2 ⟨rfl, rfl⟩) | (go_at_call 27; refine (dc _ hbel1).mono ?_; rintro e w3 ⟨rfl, hb3⟩))
        have hs3 := hb3.size
        have hat3 := hat1.below hb3 (by omega)
        have b0 : w3.cell? ⟨w1.heap.size, 0, none⟩ = some (.int .i64 p.a) := hat3.cell 0
        have b1 : w3.cell? ⟨w1.heap.size, 1, none⟩ = some (.int .i64 p.l) := hat3.cell 1
        have b2 : w3.cell? ⟨w1.heap.size, 2, none⟩ = some (.int .i64 p.c) := hat3.cell 2
        have hr1' := hr1.below hb3 (by omega)
        have hr2' := hr2.below hb3 (by omega)
        have f10 := hr1'.free 0; have f11 := hr1'.free 1; have f12 := hr1'.free 2
        have f20 := hr2'.free 0; have f21 := hr2'.free 1; have f22 := hr2'.free 2; have f23 := hr2'.free 3
        have c10 : w3.cell? ⟨w.heap.size, 0, none⟩ = some (.int .i64 0) := hr1'.cell 0
        have c11 : w3.cell? ⟨w.heap.size, 1, none⟩ = some (.int .i64 0) := hr1'.cell 1
        have c12 : w3.cell? ⟨w.heap.size, 2, none⟩ = some (.int .i64 0) := hr1'.cell 2
        have c20 : w3.cell? ⟨w.heap.size + 1, 0, none⟩ = some (.int .i64 0) := hr2'.cell 0
        have c21 : w3.cell? ⟨w.heap.size + 1, 1, none⟩ = some (.int .i64 0) := hr2'.cell 1
        have c22 : w3.cell? ⟨w.heap.size + 1, 2, none⟩ = some (.int .i64 0) := hr2'.cell 2
        have c23 : w3.cell? ⟨w.heap.size + 1, 3, none⟩ = some (.int .i64 0) := hr2'.cell 3
        go_region
        all_goals
          go_wp2
          have hlen : s.data.toList.length = s.size := hlen0
          cases b with
          | zero => have := HR.out.hb; omega
          | succ b =>
            have e := U.scan_bad s.data.toList b i p (by omega) hbad
            have s1 := HR.out.sc1
            have s2 := HR.out.sc2
            rw [e] at s1 s2
            have hne : ¬ 4000 < s.data.toList.length := by omega
            have hE : U.eE s.data.toList = 90 := by simp only [U.eE, ← s2, if_neg hne]; rfl
            have hP : U.eP s.data.toList = p := by simp only [U.eP, ← s2, if_neg hne]; rfl
            have hEnd : U.endP s.data.toList = U.zero := by simp only [U.endP, ← s2, if_neg hne]; rfl
            simp only [List.append_nil] at s1
            rw [hE, hP, hEnd]
            refine bodyPost_ret (v := .tuple #[.agg #[.int .i64 0, .int .i64 0, .int .i64 0], .agg #[.int .i64 90, .int .i64 p.a, .int .i64 p.l, .int .i64 p.c]]) (by simp [results, Tryd.results15, go_sem, c10, c11, c12, c20, c21, c22, c23]) rfl ⟨rfl, ?_⟩
            · have h0 : Below w.heap.size w w3 := hbel1.trans (hb3.mono (by omega))
              repeat (with_reducible first | exact h0 | refine Below.drew ?_ | refine Below.setCell ?_ (by simp <;> omega) _)
      · have hg : U.bad (s.data.toList.drop i) = false := by simpa using hbad
        have hlen : s.data.toList.length = s.size := by rw [Array.length_toList]; rfl
        have hpos : 0 < (s.data.toList.drop i).length := by rw [List.length_drop]; omega
        have hw := U.width_of _ hpos hg
        have hle := U.dec_le (s.data.toList.drop i)
        rw [hd] at hw hle
        have rl : ∀ W : World, Calls Tryd.prog 26 #[.int .i32 d.1] W fun e w' => e = .returned (.int .i64 d.2) ∧ W = w' := fun W => by
          rw [hw]; exact (Tryd.utf8_RuneLen _ W).mono fun e w' h => ⟨h.1, h.2.symm⟩
        have hne' : d.1 = 65533 → d.2 ≠ 1 := fun h1 h2 => by
          apply hbad; unfold U.bad; rw [hd]; exact decide_eq_true (Prod.ext h1 h2)
        have hW1s : W1.heap.size = wr.heap.size := by rw [← HW1.out]; exact Lib.iterAt_size _ _ _ _
        have hN2 := R.hN
        have hit1 : W1.heap[w1.heap.size + 1]? = some (.stringIter s (i + d.2)) := by rw [← HW1.out, ← hd]; exact Lib.iterAt_heap _ _ _ _ _ R.hit
        have hbel1 : Below w.heap.size w W1 := by rw [← HW1.out]; exact Lib.below_iterAt hbel (by omega) _ _
        have hoth1 : ∀ k, k ≠ w1.heap.size + 1 → W1.heap[k]? = wr.heap[k]? := fun k hk => by rw [← HW1.out]; exact Lib.iterAt_other _ _ _ _ _ hk
        have hpa := R.hpa; have hpl := R.hpl; have hpc := R.hpc; have hacc := R.hacc
        have HP := Lib.hid hpa
        clear hpa
        have hpa' : 0 ≤ p.a ∧ p.a ≤ 4000 := by have := HP.out; omega
        have HW := Lib.hid hw
        have HD := Lib.hid hd
        have HR := Lib.hid R
        clear hw hd R
        by_cases hfd : (d.1 : Int) = 65533
        · have h3 : ((d.1 : Int) == 65533) = true := by simpa using hfd
          have h1 : ((d.2 : Int) == 1) = false := by
            have := hne' (by omega)
            rw [beq_eq_false_iff_ne]; omega
          clear hfd hne'
          go_wp2_with (first | (go_at_call 26; refine (rl _).mono ?_; rintro e w2 ⟨rfl, rfl⟩) | (go_at_call 27; refine (dc _ hbel1).mono ?_; rintro e w3 ⟨rfl, hb3⟩; have hs3 := hb3.size; have hat3 := hat1.below hb3 (by omega); have b0 : w3.cell? ⟨w1.heap.size, 0, none⟩ = some (.int .i64 p.a) := hat3.cell 0; have b1 : w3.cell? ⟨w1.heap.size, 1, none⟩ = some (.int .i64 p.l) := hat3.cell 1; have b2 : w3.cell? ⟨w1.heap.size, 2, none⟩ = some (.int .i64 p.c) := hat3.cell 2))
          refine (end1 d.1 p.a p.l p.c w3).mono ?_
          rintro e w6 ⟨rfl, hbel6⟩
          have hs6 := hbel6.size
          have hat6 := (((fun {b cs t} (h : Blk W1 b cs t) => Blk.below h hb3 h.lt) hat1)).below hbel6 (by omega)
          have d0 : w6.cell? ⟨w1.heap.size, 0, none⟩ = some (.int .i64 p.a) := hat6.cell 0
          have d1 : w6.cell? ⟨w1.heap.size, 1, none⟩ = some (.int .i64 p.l) := hat6.cell 1
          have d2 : w6.cell? ⟨w1.heap.size, 2, none⟩ = some (.int .i64 p.c) := hat6.cell 2
          go_wp2_with (go_at_call 28; refine (next_any p.a p.l p.c d.1 d.2 _ (by omega)).mono ?_; rintro e w7 ⟨rfl, hb7⟩; have hat7 := hat6.below hb7 (by omega); have e0 : w7.cell? ⟨w1.heap.size, 0, none⟩ = some (.int .i64 p.a) := hat7.cell 0; have e1 : w7.cell? ⟨w1.heap.size, 1, none⟩ = some (.int .i64 p.l) := hat7.cell 1; have e2 : w7.cell? ⟨w1.heap.size, 2, none⟩ = some (.int .i64 p.c) := hat7.cell 2; have f0 := hat7.free 0; have f1 := hat7.free 1; have f2 := hat7.free 2)
          go_roundw
          case rel =>
            have hsz7 := hb7.size
            have hd := HD.out
            have hd' : U.dec (List.drop i s.data.toList) = d := hd
            have hkk : ∀ k, k < w1.heap.size → w.heap.size ≤ k → w7.heap[k]? = wr.heap[k]? := fun k h1 h2 => by
              rw [hb7.block k (by omega), hbel6.block k (by omega), hb3.block k (by omega), hoth1 k (by omega)]
            have hit7 : w7.heap[w1.heap.size + 1]? = some (.stringIter s (i + d.2)) := by
              rw [hb7.block _ (by omega), hbel6.block _ (by omega), hb3.block _ (by omega)]; exact hit1
            have st := HR.out.step (wn := ((w7.setCell ⟨w1.heap.size, 0, none⟩ (.int .i64 (U.next p d.1 d.2).a)).setCell ⟨w1.heap.size, 1, none⟩ (.int .i64 (U.next p d.1 d.2).l)).setCell ⟨w1.heap.size, 2, none⟩ (.int .i64 (U.next p d.1 d.2).c)) hlt hg
            rw [hd] at st
            obtain ⟨b', R'⟩ := st (fun k h1 h2 => by rw [Below.heap_setCell _ _ _ _ (by simp; omega), Below.heap_setCell _ _ _ _ (by simp; omega), Below.heap_setCell _ _ _ _ (by simp; omega)]; exact hkk k h1 (by omega))
              (by simp [World.setCell]; omega) (by rw [Below.heap_setCell _ _ _ _ (by simp), Below.heap_setCell _ _ _ _ (by simp), Below.heap_setCell _ _ _ _ (by simp)]; exact hit7)
              (((hat7.set 0 _).set 1 _).set 2 _)
            refine ⟨_, b', _, _, R', ?_⟩
            · exact ((((hbel1.trans (hb3.mono (by omega))).trans ((hbel6.mono (by omega)).trans (hb7.mono (by omega)))).setCell (p := ⟨w1.heap.size, 0, none⟩) (by simp; omega) _).setCell (p := ⟨w1.heap.size, 1, none⟩) (by simp; omega) _).setCell (p := ⟨w1.heap.size, 2, none⟩) (by simp; omega) _
          case measure =>
            have hsz7 := hb7.size
            have hit7 : w7.heap[w1.heap.size + 1]? = some (.stringIter s (i + d.2)) := by
              rw [hb7.block _ (by omega), hbel6.block _ (by omega), hb3.block _ (by omega)]; exact hit1
            have e1 : wr.iterPos (w1.heap.size + 1) = i := iterPos_of HR.out.hit
            have e2 : (((w7.setCell ⟨w1.heap.size, 0, none⟩ (.int .i64 (U.next p d.1 d.2).a)).setCell ⟨w1.heap.size, 1, none⟩ (.int .i64 (U.next p d.1 d.2).l)).setCell ⟨w1.heap.size, 2, none⟩ (.int .i64 (U.next p d.1 d.2).c)).iterPos (w1.heap.size + 1) = i + d.2 :=
              iterPos_of (by rw [Below.heap_setCell _ _ _ _ (by simp), Below.heap_setCell _ _ _ _ (by simp), Below.heap_setCell _ _ _ _ (by simp)]; exact hit7)
            rw [e1, e2]
            omega
        · have h3 : ((d.1 : Int) == 65533) = false := by simpa using hfd
          clear hfd hne'
          go_wp2_with (go_at_call 26; refine (rl _).mono ?_; rintro e w2 ⟨rfl, rfl⟩)
          refine (end1 d.1 p.a p.l p.c W1).mono ?_
          rintro e w6 ⟨rfl, hbel6⟩
          have hs6 := hbel6.size
          have hat6 := (((fun {b cs t} (h : Blk W1 b cs t) => h) hat1)).below hbel6 (by omega)
          have d0 : w6.cell? ⟨w1.heap.size, 0, none⟩ = some (.int .i64 p.a) := hat6.cell 0
          have d1 : w6.cell? ⟨w1.heap.size, 1, none⟩ = some (.int .i64 p.l) := hat6.cell 1
          have d2 : w6.cell? ⟨w1.heap.size, 2, none⟩ = some (.int .i64 p.c) := hat6.cell 2
          go_wp2_with (go_at_call 28; refine (next_any p.a p.l p.c d.1 d.2 _ (by omega)).mono ?_; rintro e w7 ⟨rfl, hb7⟩; have hat7 := hat6.below hb7 (by omega); have e0 : w7.cell? ⟨w1.heap.size, 0, none⟩ = some (.int .i64 p.a) := hat7.cell 0; have e1 : w7.cell? ⟨w1.heap.size, 1, none⟩ = some (.int .i64 p.l) := hat7.cell 1; have e2 : w7.cell? ⟨w1.heap.size, 2, none⟩ = some (.int .i64 p.c) := hat7.cell 2; have f0 := hat7.free 0; have f1 := hat7.free 1; have f2 := hat7.free 2)
          go_roundw
          case rel =>
            have hsz7 := hb7.size
            have hd := HD.out
            have hd' : U.dec (List.drop i s.data.toList) = d := hd
            have hkk : ∀ k, k < w1.heap.size → w.heap.size ≤ k → w7.heap[k]? = wr.heap[k]? := fun k h1 h2 => by
              rw [hb7.block k (by omega), hbel6.block k (by omega), hoth1 k (by omega)]
            have hit7 : w7.heap[w1.heap.size + 1]? = some (.stringIter s (i + d.2)) := by
              rw [hb7.block _ (by omega), hbel6.block _ (by omega)]; exact hit1
            have st := HR.out.step (wn := ((w7.setCell ⟨w1.heap.size, 0, none⟩ (.int .i64 (U.next p d.1 d.2).a)).setCell ⟨w1.heap.size, 1, none⟩ (.int .i64 (U.next p d.1 d.2).l)).setCell ⟨w1.heap.size, 2, none⟩ (.int .i64 (U.next p d.1 d.2).c)) hlt hg
            rw [hd] at st
            obtain ⟨b', R'⟩ := st (fun k h1 h2 => by rw [Below.heap_setCell _ _ _ _ (by simp; omega), Below.heap_setCell _ _ _ _ (by simp; omega), Below.heap_setCell _ _ _ _ (by simp; omega)]; exact hkk k h1 (by omega))
              (by simp [World.setCell]; omega) (by rw [Below.heap_setCell _ _ _ _ (by simp), Below.heap_setCell _ _ _ _ (by simp), Below.heap_setCell _ _ _ _ (by simp)]; exact hit7)
              (((hat7.set 0 _).set 1 _).set 2 _)
            refine ⟨_, b', _, _, R', ?_⟩
            · exact ((((hbel1).trans ((hbel6.mono (by omega)).trans (hb7.mono (by omega)))).setCell (p := ⟨w1.heap.size, 0, none⟩) (by simp; omega) _).setCell (p := ⟨w1.heap.size, 1, none⟩) (by simp; omega) _).setCell (p := ⟨w1.heap.size, 2, none⟩) (by simp; omega) _
          case measure =>
            have hsz7 := hb7.size
            have hit7 : w7.heap[w1.heap.size + 1]? = some (.stringIter s (i + d.2)) := by
              rw [hb7.block _ (by omega), hbel6.block _ (by omega)]; exact hit1
            have e1 : wr.iterPos (w1.heap.size + 1) = i := iterPos_of HR.out.hit
            have e2 : (((w7.setCell ⟨w1.heap.size, 0, none⟩ (.int .i64 (U.next p d.1 d.2).a)).setCell ⟨w1.heap.size, 1, none⟩ (.int .i64 (U.next p d.1 d.2).l)).setCell ⟨w1.heap.size, 2, none⟩ (.int .i64 (U.next p d.1 d.2).c)).iterPos (w1.heap.size + 1) = i + d.2 :=
              iterPos_of (by rw [Below.heap_setCell _ _ _ _ (by simp), Below.heap_setCell _ _ _ _ (by simp), Below.heap_setCell _ _ _ _ (by simp)]; exact hit7)
            rw [e1, e2]
            omega
    · have hnx : ∀ ty, (Instr.next (.pointer (some ⟨w1.heap.size + 1, 0, none⟩)) true ty).run Tryd.prog wr = _ := fun ty => Lib.run_next_end_at wr (w1.heap.size + 1) s i ty R.hit hlt
      have c0 : wr.cell? ⟨w1.heap.size, 0, none⟩ = some (.int .i64 p.a) := R.hat.cell 0
      have c1 : wr.cell? ⟨w1.heap.size, 1, none⟩ = some (.int .i64 p.l) := R.hat.cell 1
      have c2 : wr.cell? ⟨w1.heap.size, 2, none⟩ = some (.int .i64 p.c) := R.hat.cell 2
      have f10 := R.hr1.free 0; have f11 := R.hr1.free 1; have f12 := R.hr1.free 2
      have f20 := R.hr2.free 0; have f21 := R.hr2.free 1; have f22 := R.hr2.free 2; have f23 := R.hr2.free 3
      have c10 : wr.cell? ⟨w.heap.size, 0, none⟩ = some (.int .i64 0) := R.hr1.cell 0
      have c11 : wr.cell? ⟨w.heap.size, 1, none⟩ = some (.int .i64 0) := R.hr1.cell 1
      have c12 : wr.cell? ⟨w.heap.size, 2, none⟩ = some (.int .i64 0) := R.hr1.cell 2
      have c20 : wr.cell? ⟨w.heap.size + 1, 0, none⟩ = some (.int .i64 0) := R.hr2.cell 0
      have c21 : wr.cell? ⟨w.heap.size + 1, 1, none⟩ = some (.int .i64 0) := R.hr2.cell 1
      have c22 : wr.cell? ⟨w.heap.size + 1, 2, none⟩ = some (.int .i64 0) := R.hr2.cell 2
      have c23 : wr.cell? ⟨w.heap.size + 1, 3, none⟩ = some (.int .i64 0) := R.hr2.cell 3
      have HR := Lib.hid R
      clear R
      go_wp2
      have hlen : s.data.toList.length = s.size := hlen0
      have e := U.scan_end s.data.toList b i p (by omega)
      have s1 := HR.out.sc1
      have s2 := HR.out.sc2
      rw [e] at s1 s2
      have hne : ¬ 4000 < s.data.toList.length := by omega
      have hE : U.eE s.data.toList = 0 := by simp only [U.eE, ← s2, if_neg hne]; rfl
      have hP : U.eP s.data.toList = U.zero := by simp only [U.eP, ← s2, if_neg hne]; rfl
      have hEnd : U.endP s.data.toList = p := by simp only [U.endP, ← s2, if_neg hne]; rfl
      simp only [List.append_nil] at s1
      rw [hE, hP, hEnd]
      refine bodyPost_ret (v := .tuple #[.agg #[.int .i64 p.a, .int .i64 p.l, .int .i64 p.c], .agg #[.int .i64 0, .int .i64 0, .int .i64 0, .int .i64 0]]) (by simp [results, Tryd.results15, go_sem, c10, c11, c12, c20, c21, c22, c23]) rfl ⟨rfl, ?_⟩
      · repeat (with_reducible first | exact hbel | refine Below.drew ?_ | refine Below.setCell ?_ (by simp <;> omega) _)
/-- a text that is too long -/
theorem walk_long (s : ByteArray) (fv : Value) (w : World) (hs : s.size ≤ maxLen) (hlong : 4000 < s.size) :
    Calls Tryd.prog 15 #[.string s, fv] w fun e w' =>
      e = .returned (.tuple #[.agg #[.int .i64 0, .int .i64 0, .int .i64 0], .agg #[.int .i64 3, .int .i64 0, .int .i64 0, .int .i64 0]]) ∧ Below w.heap.size w w' := by
  unfold maxLen at hs
  have hl : (4000 : Int) < (s.size : Int) := by omega
  go_enter Tryd.func15, Tryd.ntmps15
  go_wp2
  refine bodyPost_ret (v := .tuple #[.agg #[.int .i64 0, .int .i64 0, .int .i64 0], .agg #[.int .i64 3, .int .i64 0, .int .i64 0, .int .i64 0]]) (by simp [results, Tryd.results15, go_sem]) rfl ⟨rfl, ?_⟩
  exact (((Below.refl w.heap.size w).alloc (Nat.le_refl _) _).alloc (by simp) _)

theorem spec_long (l : List UInt8) (h : 4000 < l.length) : U.pts l = [] ∧ U.eE l = 3 ∧ U.eP l = U.zero ∧ U.endP l = U.zero := by
  simp [U.pts, U.eE, U.eP, U.endP, h]

def posV (p : U.Pos) : Value := .agg #[.int .i64 p.a, .int .i64 p.l, .int .i64 p.c]
def diagV (e : Int) (p : U.Pos) : Value := .agg #[.int .i64 e, .int .i64 p.a, .int .i64 p.l, .int .i64 p.c]

def walked (l : List UInt8) : List U.Pt := if 4000 < l.length then [] else (U.all l).1

theorem walk_end_all (s : ByteArray) (w : World) (hs : s.size ≤ maxLen) (hT : Lib.Utf8Tabs 0 1 w) (h2 : 2 ≤ w.heap.size) :
    Calls Tryd.prog 15 #[.string s, .func (.func 17) #[] #[]] w fun e w' =>
      e = .returned (.tuple #[posV (U.endP s.data.toList), diagV (U.eE s.data.toList) (U.eP s.data.toList)]) ∧ Below w.heap.size w w' := by
  by_cases hl : 4000 < s.size
  · obtain ⟨_, e2, e3, e4⟩ := spec_long s.data.toList (by rw [Array.length_toList]; exact hl)
    rw [e2, e3, e4]
    exact walk_long s _ w hs hl
  · exact walk_end s w hs hT h2 hl

theorem walk_points_all (s : ByteArray) (Bo : Nat) (w : World) (hs : s.size ≤ maxLen) (hT : Lib.Utf8Tabs 0 1 w) (h2 : 2 ≤ Bo)
    (hv : Blk w Bo #[.slice none 0 0] 23) :
    Calls Tryd.prog 15 #[.string s, .func (.func 16) #[] #[.pointer (some ⟨Bo, 0, none⟩)]] w fun e w' =>
      e = .returned (.tuple #[posV (U.endP s.data.toList), diagV (U.eE s.data.toList) (U.eP s.data.toList)]) ∧
      ∃ v', Blk w' Bo #[v'] 23 ∧ w'.ownsRow w.heap.size 42 4 v' (walked s.data.toList).length (ptsCells (walked s.data.toList)) ∧ Below Bo w w' := by
  by_cases hl : 4000 < s.size
  · have hl' : 4000 < s.data.toList.length := by rw [Array.length_toList]; exact hl
    obtain ⟨_, e2, e3, e4⟩ := spec_long s.data.toList hl'
    have e1 : walked s.data.toList = [] := by simp only [walked, if_pos hl']
    rw [e1, e2, e3, e4]
    have hlt := hv.lt
    exact (walk_long s _ w hs hl).mono fun e w' h => ⟨h.1, _, hv.below h.2 hlt, World.ownsRow_nil _ _ _ _, h.2.mono (by omega)⟩
  · have hl' : ¬ 4000 < s.data.toList.length := by rw [Array.length_toList]; exact hl
    have e1 : walked s.data.toList = (U.all s.data.toList).1 := by simp only [walked, if_neg hl']
    rw [e1]
    exact walk_points s Bo w hs hT h2 hv hl

theorem eE_cases (l : List UInt8) : (U.eE l = 0 ∧ U.pts l = walked l ∧ U.eP l = U.zero) ∨ ((U.eE l = 3 ∨ U.eE l = 90) ∧ U.pts l = []) := by
  unfold U.eE U.pts U.eP walked
  by_cases h : 4000 < l.length
  · simp [h]
  · by_cases h' : (U.all l).2.2 = true
    · simp [h, h']
    · simp [h, h']

set_option maxHeartbeats 400000 in
theorem End_any (s : ByteArray) (w : World) (hs : s.size ≤ maxLen) (hT : Lib.Utf8Tabs 0 1 w) (h2 : 2 ≤ w.heap.size) :
    Calls Tryd.prog 10 #[.string s] w fun e w' =>
      e = .returned (.tuple #[posV (U.endP s.data.toList), diagV (U.eE s.data.toList) (U.eP s.data.toList)]) ∧ Below w.heap.size w w' := by
  have hb0 : ∀ o1 o2 : Obj, Below w.heap.size w ((w.alloc o1).alloc o2) := fun o1 o2 => ((Below.refl _ _).alloc (Nat.le_refl _) _).alloc (by simp) _
  obtain ⟨p, hp⟩ : ∃ p, U.endP s.data.toList = p := ⟨_, rfl⟩
  obtain ⟨q, hq⟩ : ∃ q, U.eP s.data.toList = q := ⟨_, rfl⟩
  obtain ⟨z, hz⟩ : ∃ z, U.eE s.data.toList = z := ⟨_, rfl⟩
  have cw := fun (o1 o2 : Obj) => walk_end_all s ((w.alloc o1).alloc o2) hs (tabs_below w.heap.size hT (hb0 o1 o2) h2) (by simp <;> omega)
  rw [hp, hq, hz] at cw ⊢
  simp only [World.size_alloc] at cw
  unfold posV diagV at cw ⊢
  have HC := Lib.hid cw
  have HB := Lib.hid hb0
  clear cw hb0 hp hq hz hT
  go_enter Tryd.func10, Tryd.ntmps10
  go_wp2_with fail
  refine (HC.out _ _).mono ?_
  rintro e w1 ⟨rfl, hb1⟩
  have g1 := (Blk.new w w.heap.size #[.int .i64 0, .int .i64 0, .int .i64 0] 26 rfl).alloc (.cells #[.int .i64 0, .int .i64 0, .int .i64 0, .int .i64 0] 28)
  have g2 := (Blk.new (w.alloc (.cells #[.int .i64 0, .int .i64 0, .int .i64 0] 26)) (w.heap.size + 1) #[.int .i64 0, .int .i64 0, .int .i64 0, .int .i64 0] 28 (by simp))
  have k1 := g1.below hb1 (by omega)
  have k2 := g2.below hb1 (by omega)
  have c10 : w1.cell? ⟨w.heap.size, 0, none⟩ = some (.int .i64 0) := k1.cell 0
  have c11 : w1.cell? ⟨w.heap.size, 1, none⟩ = some (.int .i64 0) := k1.cell 1
  have c12 : w1.cell? ⟨w.heap.size, 2, none⟩ = some (.int .i64 0) := k1.cell 2
  have c20 : w1.cell? ⟨w.heap.size + 1, 0, none⟩ = some (.int .i64 0) := k2.cell 0
  have c21 : w1.cell? ⟨w.heap.size + 1, 1, none⟩ = some (.int .i64 0) := k2.cell 1
  have c22 : w1.cell? ⟨w.heap.size + 1, 2, none⟩ = some (.int .i64 0) := k2.cell 2
  have c23 : w1.cell? ⟨w.heap.size + 1, 3, none⟩ = some (.int .i64 0) := k2.cell 3
  have f10 := k1.free 0; have f11 := k1.free 1; have f12 := k1.free 2
  have f20 := k2.free 0; have f21 := k2.free 1; have f22 := k2.free 2; have f23 := k2.free 3
  have hb2 : Below w.heap.size w w1 := (HB.out _ _).trans (hb1.mono (by omega))
  go_wp2
  refine bodyPost_ret (v := .tuple #[.agg #[.int .i64 p.a, .int .i64 p.l, .int .i64 p.c], .agg #[.int .i64 z, .int .i64 q.a, .int .i64 q.l, .int .i64 q.c]]) (by simp [results, Tryd.results10, go_sem, c10, c11, c12, c20, c21, c22, c23]) rfl ⟨rfl, ?_⟩
  repeat (with_reducible first | exact hb2 | refine Below.drew ?_ | refine Below.setCell ?_ (by simp <;> omega) _)

theorem run_mkfunc (fn : Fn) (first cap : Array Value) (w : World) : (Instr.makeFunc fn first cap).run Tryd.prog w = .ok (.func fn first cap) w := rfl

set_option maxHeartbeats 800000 in
theorem Points_any (s : ByteArray) (w : World) (hs : s.size ≤ maxLen) (hT : Lib.Utf8Tabs 0 1 w) (h2 : 2 ≤ w.heap.size) :
    Calls Tryd.prog 9 #[.string s] w fun e w' => ∃ v,
      e = .returned (.tuple #[v, diagV (U.eE s.data.toList) (U.eP s.data.toList)]) ∧ Below w.heap.size w w' ∧ w'.ownsRow w.heap.size 42 4 v (U.pts s.data.toList).length (ptsCells (U.pts s.data.toList)) := by
  have hmf := run_mkfunc
  have hb0 : ∀ o1 o2 : Obj, Below w.heap.size w ((w.alloc o1).alloc o2) := fun o1 o2 => ((Below.refl _ _).alloc (Nat.le_refl _) _).alloc (by simp) _
  have hcases := eE_cases s.data.toList
  obtain ⟨p, hp⟩ : ∃ p, U.endP s.data.toList = p := ⟨_, rfl⟩
  obtain ⟨q, hq⟩ : ∃ q, U.eP s.data.toList = q := ⟨_, rfl⟩
  obtain ⟨z, hz⟩ : ∃ z, U.eE s.data.toList = z := ⟨_, rfl⟩
  obtain ⟨l, hl⟩ : ∃ z, U.pts s.data.toList = z := ⟨_, rfl⟩
  obtain ⟨m, hm⟩ : ∃ z, walked s.data.toList = z := ⟨_, rfl⟩
  have cw := fun (o1 : Obj) => walk_points_all s (w.heap.size + 1) ((w.alloc o1).alloc (.cells #[.slice none 0 0] 23)) hs (tabs_below w.heap.size hT (hb0 _ _) h2) (by omega) (Blk.new _ _ _ _ (by simp))
  rw [hp, hq, hz, hm] at cw
  rw [hz, hl, hm, hq] at hcases
  rw [hz, hl, hq]
  simp only [World.size_alloc] at cw
  unfold posV diagV at cw
  unfold diagV
  have HC := Lib.hid cw
  have HB := Lib.hid hb0
  clear cw hb0 hp hq hz hT hl hm
  rcases hcases with ⟨hz0, hlm, hqz⟩ | ⟨hz0, hlm⟩
  · subst hlm hz0 hqz
    go_enter Tryd.func9, Tryd.ntmps9
    go_wp2_with fail
    refine (HC.out _).mono ?_
    rintro e w1 ⟨rfl, v, hv, hown, hb1⟩
    have hb2 : Below w.heap.size w w1 := (HB.out _ _).trans (hb1.mono (by omega))
    have hlt1 : w.heap.size + 1 < w1.heap.size := hv.lt
    have hlt0 : w.heap.size < w1.heap.size := by omega
    have g1 := (Blk.new w w.heap.size #[.int .i64 0, .int .i64 0, .int .i64 0, .int .i64 0] 28 rfl).alloc (.cells #[.slice none 0 0] 23)
    have k1 := g1.below hb1 (by omega)
    have c20 : w1.cell? ⟨w.heap.size, 0, none⟩ = some (.int .i64 0) := k1.cell 0
    have c21 : w1.cell? ⟨w.heap.size, 1, none⟩ = some (.int .i64 0) := k1.cell 1
    have c22 : w1.cell? ⟨w.heap.size, 2, none⟩ = some (.int .i64 0) := k1.cell 2
    have c23 : w1.cell? ⟨w.heap.size, 3, none⟩ = some (.int .i64 0) := k1.cell 3
    have f20 := k1.free 0; have f21 := k1.free 1; have f22 := k1.free 2; have f23 := k1.free 3
    have cv : w1.cell? ⟨w.heap.size + 1, 0, none⟩ = some v := hv.cell 0
    obtain ⟨oa, cp, hv'⟩ := own_slice hown
    subst hv'
    go_wp2
    refine bodyPost_ret (v := .tuple #[.slice oa l.length cp, .agg #[.int .i64 0, .int .i64 U.zero.a, .int .i64 U.zero.l, .int .i64 U.zero.c]]) (by simp [results, Tryd.results9, go_sem, c20, c21, c22, c23, hlt0]; exact ⟨rfl, rfl, rfl⟩) rfl ⟨_, rfl, ?_, ?_⟩
    · repeat (with_reducible first | exact hb2 | refine Below.drew ?_ | refine Below.setCell ?_ (by simp <;> omega) _ | refine Below.alloc ?_ (by simp <;> omega) _)
    · refine own_base (base := w.heap.size + 1 + 1) ?_ (by omega)
      repeat (with_reducible first | exact hown | refine own_drew ?_ | refine ownsRow_setCell_below ?_ (by simp <;> omega) _ | refine World.ownsRow.alloc ?_ _)
  · subst hlm
    have hz3 : (z == 0) = false := by rw [beq_eq_false_iff_ne]; omega
    have hz4 : (z != 0) = true := by rw [bne_iff_ne]; omega
    have HZ := Lib.hid hz0
    clear hz0
    go_enter Tryd.func9, Tryd.ntmps9
    go_wp2_with fail
    refine (HC.out _).mono ?_
    rintro e w1 ⟨rfl, v, hv, hown, hb1⟩
    have hb2 : Below w.heap.size w w1 := (HB.out _ _).trans (hb1.mono (by omega))
    have hlt1 : w.heap.size + 1 < w1.heap.size := hv.lt
    have hlt0 : w.heap.size < w1.heap.size := by omega
    have g1 := (Blk.new w w.heap.size #[.int .i64 0, .int .i64 0, .int .i64 0, .int .i64 0] 28 rfl).alloc (.cells #[.slice none 0 0] 23)
    have k1 := g1.below hb1 (by omega)
    have c20 : w1.cell? ⟨w.heap.size, 0, none⟩ = some (.int .i64 0) := k1.cell 0
    have c21 : w1.cell? ⟨w.heap.size, 1, none⟩ = some (.int .i64 0) := k1.cell 1
    have c22 : w1.cell? ⟨w.heap.size, 2, none⟩ = some (.int .i64 0) := k1.cell 2
    have c23 : w1.cell? ⟨w.heap.size, 3, none⟩ = some (.int .i64 0) := k1.cell 3
    have f20 := k1.free 0; have f21 := k1.free 1; have f22 := k1.free 2; have f23 := k1.free 3
    have cv : w1.cell? ⟨w.heap.size + 1, 0, none⟩ = some v := hv.cell 0
    obtain ⟨oa, cp, hv'⟩ := own_slice hown
    subst hv'
    go_wp2
    go_region
    all_goals
      go_wp2
      refine bodyPost_ret (v := .tuple #[.slice none 0 0, .agg #[.int .i64 z, .int .i64 q.a, .int .i64 q.l, .int .i64 q.c]]) (by simp [results, Tryd.results9, go_sem, c20, c21, c22, c23, hlt0]) rfl ⟨_, rfl, ?_, ?_⟩
      · repeat (with_reducible first | exact hb2 | refine Below.drew ?_ | refine Below.setCell ?_ (by simp <;> omega) _ | refine Below.alloc ?_ (by simp <;> omega) _)
      · exact World.ownsRow_nil _ _ _ _
end Go.Proofs.YthhphmhddeoagaaDoor
