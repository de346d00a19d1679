/- utf.walk, with each of the two functions that it is handed; Points; End. -/
import Derived.Test.YtaojgcioljcpmaaGreatDoorUtfA
import Derived.Lib.OthersKept
namespace Go.Proofs.YtaojgcioljcpmaaGreatDoor
open Go.RowKit

theorem extract_list (s : ByteArray) (i : Nat) : (s.extract i s.size).data.toList = s.data.toList.drop i := by
  rw [Lib.extract_data, List.take_of_length_le]
  rw [List.length_drop, Array.length_toList]
  exact Nat.le_refl _

theorem decodeGo_extract (s : ByteArray) (i : Nat) (h : i < s.size) : Lib.decodeGo (s.extract i s.size) = U.dec (s.data.toList.drop i) := by
  have hz : (s.extract i s.size).size ≠ 0 := by simp; omega
  rw [Lib.decodeGo, if_neg hz, U.decode_dec, extract_list]
  simp

theorem tabs_below {w w' : World} (B : Nat) (h : Lib.Utf8Tabs 4 5 w) (hb : Below B w w') (hB : (4 + 5 + 1) ≤ B) : Lib.Utf8Tabs 4 5 w' := by
  refine ⟨fun c hc => ?_, fun i hi => ⟨?_, ?_⟩⟩
  · exact (hb.cell (p := ⟨4, c, none⟩) (show 4 < B by omega)).trans (h.1 c hc)
  · exact (hb.cell (p := ⟨5, 2 * i, none⟩) (show 5 < B by omega)).trans (h.2 i hi).1
  · exact (hb.cell (p := ⟨5, 2 * i + 1, none⟩) (show 5 < B by omega)).trans (h.2 i hi).2

/-- what holds at the head of a round of walk, without the memory of the function that it is handed -/
structure WalkRel (w : World) (s : ByteArray) (N : Nat) (wr : World) (i b : Nat) (acc : List U.Pt) (p : U.Pos) : Prop where
  hit : wr.heap[N + 1]? = some (.stringIter s i)
  hat : Blk wr N #[.int .i64 p.a, .int .i64 p.l, .int .i64 p.c] 29
  hr1 : Blk wr w.heap.size #[.int .i64 0, .int .i64 0, .int .i64 0] 29
  hr2 : Blk wr (w.heap.size + 1) #[.int .i64 0, .int .i64 0, .int .i64 0, .int .i64 0] 31
  hNw : w.heap.size + 2 ≤ N
  hN : N + 2 ≤ wr.heap.size
  sc1 : acc ++ (U.scan s.data.toList b i p).1 = (U.all s.data.toList).1
  sc2 : (U.scan s.data.toList b i p).2 = (U.all s.data.toList).2
  hb : s.data.toList.length ≤ i + b
  hpa : p.a = i
  hi : i ≤ s.size
  hpl : 1 ≤ p.l ∧ p.l ≤ i + 1
  hpc : 1 ≤ p.c ∧ p.c ≤ i + 1
  hacc : acc.length ≤ i

theorem WalkRel.step {w : World} {s : ByteArray} {N : Nat} {wr wn : World} {i b : Nat} {acc : List U.Pt} {p : U.Pos} (R : WalkRel w s N wr i b acc p) (hlt : i < s.size)
    (hg : U.bad (s.data.toList.drop i) = false) (hk : ∀ k, k < N → w.heap.size ≤ k → wn.heap[k]? = wr.heap[k]?) (hsz : N + 2 ≤ wn.heap.size)
    (hit : wn.heap[N + 1]? = some (.stringIter s (i + (U.dec (s.data.toList.drop i)).2)))
    (hat : Blk wn N #[.int .i64 (U.next p (U.dec (s.data.toList.drop i)).1 (U.dec (s.data.toList.drop i)).2).a, .int .i64 (U.next p (U.dec (s.data.toList.drop i)).1 (U.dec (s.data.toList.drop i)).2).l, .int .i64 (U.next p (U.dec (s.data.toList.drop i)).1 (U.dec (s.data.toList.drop i)).2).c] 29) :
    ∃ b', WalkRel w s N wn (i + (U.dec (s.data.toList.drop i)).2) b' (acc ++ [(⟨(U.dec (s.data.toList.drop i)).1, p⟩ : U.Pt)]) (U.next p (U.dec (s.data.toList.drop i)).1 (U.dec (s.data.toList.drop i)).2) := by
  have hlen : s.data.toList.length = s.size := by rw [Array.length_toList]; rfl
  have hN := R.hNw
  cases b with
  | zero => have := R.hb; omega
  | succ b =>
    have e := U.scan_good s.data.toList b i p (by omega) hg
    have hd := U.enc_dec (s.data.toList.drop i) (by rw [List.length_drop]; omega) hg
    have hle := U.dec_le (s.data.toList.drop i)
    rw [List.length_drop] at hd
    have hpl := R.hpl
    have hpc := R.hpc
    have hpa := R.hpa
    have hacc := R.hacc
    have hb := R.hb
    refine ⟨b, hit, hat, (hk _ (by omega) (Nat.le_refl _)).trans R.hr1, (hk _ (by omega) (by omega)).trans R.hr2, hN, hsz, ?_, ?_, by omega, ?_, by omega, ?_, ?_, ?_⟩
    · rw [← R.sc1, e]; simp
    · rw [← R.sc2, e]
    · unfold U.next; split <;> simp only <;> omega
    · unfold U.next; split <;> simp only <;> omega
    · unfold U.next; split <;> simp only <;> omega
    · rw [List.length_append, List.length_singleton]; omega

set_option maxHeartbeats 1000000 in
theorem walk_points (s : ByteArray) (Bo : Nat) (w : World) (hs : s.size ≤ maxLen) (hT : Lib.Utf8Tabs 4 5 w) (h2 : (4 + 5 + 1) ≤ Bo)
    (hv : Blk w Bo #[.slice none 0 0] 60) (hlong : ¬ 4000 < s.size) :
    Calls Tryz.prog 48 #[.string s, .func (.func 49) #[] #[.pointer (some ⟨Bo, 0, none⟩)]] w fun e w' =>
      e = .returned (.tuple #[.agg #[.int .i64 (U.endP s.data.toList).a, .int .i64 (U.endP s.data.toList).l, .int .i64 (U.endP s.data.toList).c],
        .agg #[.int .i64 (U.eE s.data.toList), .int .i64 (U.eP s.data.toList).a, .int .i64 (U.eP s.data.toList).l, .int .i64 (U.eP s.data.toList).c]]) ∧
      ∃ v', Blk w' Bo #[v'] 60 ∧ w'.ownsRow w.heap.size 86 4 v' (U.all s.data.toList).1.length (ptsCells (U.all s.data.toList).1) ∧ Below Bo w w' := by
  have hlen0 : s.data.toList.length = s.size := by rw [Array.length_toList]; rfl
  unfold maxLen at hs
  have hBo := hv.lt
  have hl : ¬ (4000 : Int) < (s.size : Int) := by omega
  go_enter Tryz.func48, Tryz.ntmps48
  go_wp2_with (go_at_call 73; refine (start_any _).mono ?_; rintro e w1 ⟨rfl, hb1⟩)
  have hz1 := hb1.size
  simp only [World.size_alloc] at hz1
  go_loopw [] (fun wr => ∃ i b acc p v, WalkRel w s w1.heap.size wr i b acc p ∧ Blk wr Bo #[v] 60 ∧ wr.ownsRow (w1.heap.size + 2) 86 4 v acc.length (ptsCells acc) ∧ Below Bo w wr) (fun wr => s.size - wr.iterPos (w1.heap.size + 1))
  case atStart =>
    have hb1' := hb1
    simp only [World.size_alloc] at hb1'
    have hbw : Below w.heap.size w w1 := (((Below.refl w.heap.size w).alloc (Nat.le_refl _) _).alloc (by simp) _).trans (hb1'.mono (by omega))
    refine ⟨0, s.data.toList.length, [], U.start, .slice none 0 0, ?_, ?_, ?_, ?_⟩
    · refine ⟨?_, ?_, ?_, ?_, by omega, by simp [World.iter], rfl, rfl, by omega, rfl, by omega, by simp [U.start], by simp [U.start], by simp⟩
      · have := heap_alloc_new (w1.alloc (.cells #[.int .i64 0, .int .i64 1, .int .i64 1] 29)) (.stringIter s 0)
        simpa [World.iter] using this
      · exact (Blk.new w1 w1.heap.size _ _ rfl).alloc _
      · exact ((Blk.below (((Blk.new w w.heap.size _ _ rfl)).alloc _) hb1' (by omega)).alloc _).alloc _
      · exact ((Blk.below (Blk.new _ (w.heap.size + 1) _ _ (by simp)) hb1' (by omega)).alloc _).alloc _
    · exact ((hv.below hbw hBo).alloc _).alloc _
    · exact World.ownsRow_nil _ _ _ _
    · exact ((hbw.mono (by omega)).alloc (by omega) _).alloc (by simp; omega) _
  case round =>
    obtain ⟨i, b, acc, p, v, R, hvr, hown, hbel⟩ := hrel
    by_cases hlt : i < s.size
    · have hnx0 : ∀ ty, (Instr.next (.pointer (some ⟨w1.heap.size + 1, 0, none⟩)) true ty).run Tryz.prog wr = _ := fun ty => Lib.run_next_any_at wr (w1.heap.size + 1) s i ty R.hit hlt
      rw [U.decode_dec] at hnx0
      obtain ⟨W1, hW1⟩ : ∃ W1, wr.iterAt (w1.heap.size + 1) s (i + (U.dec (s.data.toList.drop i)).2) = W1 := ⟨_, rfl⟩
      rw [hW1] at hnx0
      have hat1 : Blk W1 w1.heap.size #[.int .i64 p.a, .int .i64 p.l, .int .i64 p.c] 29 := by rw [← hW1]; exact R.hat.iterAt (by omega) _ _
      have c0 : W1.cell? ⟨w1.heap.size, 0, none⟩ = some (.int .i64 p.a) := hat1.cell 0
      have c1 : W1.cell? ⟨w1.heap.size, 1, none⟩ = some (.int .i64 p.l) := hat1.cell 1
      have c2 : W1.cell? ⟨w1.heap.size, 2, none⟩ = some (.int .i64 p.c) := hat1.cell 2
      have HW1 := Lib.hid hW1
      clear hW1
      obtain ⟨d, hd⟩ : ∃ d, U.dec (s.data.toList.drop i) = d := ⟨_, rfl⟩
      have dc : ∀ (W : World), Below Bo w W → Calls Tryz.prog 75 #[.string (s.extract i s.size)] W fun e w' => e = .returned (.tuple #[.int .i32 d.1, .int .i64 d.2]) ∧ Below W.heap.size W w' := by
        intro W hW
        have := Tryz.utf8_DecodeRuneInString (s.extract i s.size) W (tabs_below Bo hT hW h2)
        rw [decodeGo_extract s i hlt, hd] at this
        exact this
      rw [hd] at hnx0
      have hnx := hnx0
      clear hnx0
      by_cases hbad : U.bad (s.data.toList.drop i) = true
      · have hdd : d = (65533, 1) := by rw [← hd]; unfold U.bad at hbad; exact of_decide_eq_true hbad
        subst hdd
        have rl : ∀ W : World, Calls Tryz.prog 74 #[.int .i32 65533] W fun e w' => e = .returned (.int .i64 3) ∧ W = w' := fun W => 
          (Tryz.utf8_RuneLen _ W).mono fun e w' h => ⟨h.1, h.2.symm⟩
        have hbel1 : Below Bo w W1 := by rw [← HW1.out]; exact Lib.below_iterAt hbel (by omega) _ _
        have hN2 := R.hN
        have hW1s : W1.heap.size = wr.heap.size := by rw [← HW1.out]; exact Lib.iterAt_size _ _ _ _
        have hr1 : Blk W1 w.heap.size #[.int .i64 0, .int .i64 0, .int .i64 0] 29 := by rw [← HW1.out]; exact R.hr1.iterAt (by omega) _ _
        have hr2 : Blk W1 (w.heap.size + 1) #[.int .i64 0, .int .i64 0, .int .i64 0, .int .i64 0] 31 := by rw [← HW1.out]; exact R.hr2.iterAt (by omega) _ _
        have hv1 : Blk W1 Bo #[v] 60 := by rw [← HW1.out]; exact hvr.iterAt (by omega) _ _
        have hown1 : W1.ownsRow (w1.heap.size + 2) 86 4 v acc.length (ptsCells acc) := by rw [← HW1.out]; exact ownsRow_iterAt hown (by omega) _ _
        have HR := Lib.hid R
        have HD := Lib.hid hd
        clear R hd
        go_wp2_with (first | (go_at_call 74; refine (rl _).mono ?_; rintro e w2 ⟨rfl, rfl⟩) | (go_at_call 75; refine (dc _ hbel1).mono ?_; rintro e w3 ⟨rfl, hb3⟩))
        have hs3 := hb3.size
        have hat3 := hat1.below hb3 (by omega)
        have b0 : w3.cell? ⟨w1.heap.size, 0, none⟩ = some (.int .i64 p.a) := hat3.cell 0
        have b1 : w3.cell? ⟨w1.heap.size, 1, none⟩ = some (.int .i64 p.l) := hat3.cell 1
        have b2 : w3.cell? ⟨w1.heap.size, 2, none⟩ = some (.int .i64 p.c) := hat3.cell 2
        have hr1' := hr1.below hb3 (by omega)
        have hr2' := hr2.below hb3 (by omega)
        have f10 := hr1'.free 0; have f11 := hr1'.free 1; have f12 := hr1'.free 2
        have f20 := hr2'.free 0; have f21 := hr2'.free 1; have f22 := hr2'.free 2; have f23 := hr2'.free 3
        have c10 : w3.cell? ⟨w.heap.size, 0, none⟩ = some (.int .i64 0) := hr1'.cell 0
        have c11 : w3.cell? ⟨w.heap.size, 1, none⟩ = some (.int .i64 0) := hr1'.cell 1
        have c12 : w3.cell? ⟨w.heap.size, 2, none⟩ = some (.int .i64 0) := hr1'.cell 2
        have c20 : w3.cell? ⟨w.heap.size + 1, 0, none⟩ = some (.int .i64 0) := hr2'.cell 0
        have c21 : w3.cell? ⟨w.heap.size + 1, 1, none⟩ = some (.int .i64 0) := hr2'.cell 1
        have c22 : w3.cell? ⟨w.heap.size + 1, 2, none⟩ = some (.int .i64 0) := hr2'.cell 2
        have c23 : w3.cell? ⟨w.heap.size + 1, 3, none⟩ = some (.int .i64 0) := hr2'.cell 3
        go_region
        all_goals
          go_wp2
          have hlen : s.data.toList.length = s.size := hlen0
          cases b with
          | zero => have := HR.out.hb; omega
          | succ b =>
            have e := U.scan_bad s.data.toList b i p (by omega) hbad
            have s1 := HR.out.sc1
            have s2 := HR.out.sc2
            rw [e] at s1 s2
            have hne : ¬ 4000 < s.data.toList.length := by omega
            have hE : U.eE s.data.toList = 90 := by simp only [U.eE, ← s2, if_neg hne]; rfl
            have hP : U.eP s.data.toList = p := by simp only [U.eP, ← s2, if_neg hne]; rfl
            have hEnd : U.endP s.data.toList = U.zero := by simp only [U.endP, ← s2, if_neg hne]; rfl
            simp only [List.append_nil] at s1
            rw [← s1, hE, hP, hEnd]
            refine bodyPost_ret (v := .tuple #[.agg #[.int .i64 0, .int .i64 0, .int .i64 0], .agg #[.int .i64 90, .int .i64 p.a, .int .i64 p.l, .int .i64 p.c]]) (by simp [results, Tryz.results48, go_sem, c10, c11, c12, c20, c21, c22, c23]) rfl ⟨rfl, v, ?_, ?_, ?_⟩
            · have h0 := hv1.below hb3 (by omega)
              repeat (with_reducible first | exact h0 | refine Blk.drew ?_ | refine Blk.setOther ?_ (by simp <;> omega) _)
            · have h0 := own_below hown1 hb3 (Nat.le_refl _)
              refine own_base (base := w1.heap.size + 2) ?_ (by omega)
              repeat (with_reducible first | exact h0 | refine own_drew ?_ | refine ownsRow_setCell_below ?_ (by simp <;> omega) _)
            · have h0 : Below Bo w w3 := hbel1.trans (hb3.mono (by omega))
              repeat (with_reducible first | exact h0 | refine Below.drew ?_ | refine Below.setCell ?_ (by simp <;> omega) _)
      · have hg : U.bad (s.data.toList.drop i) = false := by simpa using hbad
        have hlen : s.data.toList.length = s.size := by rw [Array.length_toList]; rfl
        have hpos : 0 < (s.data.toList.drop i).length := by rw [List.length_drop]; omega
        have hw := U.width_of _ hpos hg
        have hle := U.dec_le (s.data.toList.drop i)
        rw [hd] at hw hle
        have rl : ∀ W : World, Calls Tryz.prog 74 #[.int .i32 d.1] W fun e w' => e = .returned (.int .i64 d.2) ∧ W = w' := fun W => by
          rw [hw]; exact (Tryz.utf8_RuneLen _ W).mono fun e w' h => ⟨h.1, h.2.symm⟩
        have hne' : d.1 = 65533 → d.2 ≠ 1 := fun h1 h2 => by
          apply hbad; unfold U.bad; rw [hd]; exact decide_eq_true (Prod.ext h1 h2)
        have hW1s : W1.heap.size = wr.heap.size := by rw [← HW1.out]; exact Lib.iterAt_size _ _ _ _
        have hN2 := R.hN
        have hit1 : W1.heap[w1.heap.size + 1]? = some (.stringIter s (i + d.2)) := by rw [← HW1.out, ← hd]; exact Lib.iterAt_heap _ _ _ _ _ R.hit
        have hv1 : Blk W1 Bo #[v] 60 := by rw [← HW1.out]; exact hvr.iterAt (by omega) _ _
        have hown1 : W1.ownsRow (w1.heap.size + 2) 86 4 v acc.length (ptsCells acc) := by rw [← HW1.out]; exact ownsRow_iterAt hown (by omega) _ _
        have hbel1 : Below Bo w W1 := by rw [← HW1.out]; exact Lib.below_iterAt hbel (by omega) _ _
        have hoth1 : ∀ k, k ≠ w1.heap.size + 1 → W1.heap[k]? = wr.heap[k]? := fun k hk => by rw [← HW1.out]; exact Lib.iterAt_other _ _ _ _ _ hk
        have hpa := R.hpa; have hpl := R.hpl; have hpc := R.hpc; have hacc := R.hacc
        have HP := Lib.hid hpa
        clear hpa
        have hpa' : 0 ≤ p.a ∧ p.a ≤ 4000 := by have := HP.out; omega
        have HW := Lib.hid hw
        have HD := Lib.hid hd
        have HR := Lib.hid R
        clear hw hd R
        by_cases hfd : (d.1 : Int) = 65533
        · have h3 : ((d.1 : Int) == 65533) = true := by simpa using hfd
          have h1 : ((d.2 : Int) == 1) = false := by
            have := hne' (by omega)
            rw [beq_eq_false_iff_ne]; omega
          clear hfd hne'
          go_wp2_with (first | (go_at_call 74; refine (rl _).mono ?_; rintro e w2 ⟨rfl, rfl⟩) | (go_at_call 75; refine (dc _ hbel1).mono ?_; rintro e w3 ⟨rfl, hb3⟩; have hs3 := hb3.size; have hat3 := hat1.below hb3 (by omega); have b0 : w3.cell? ⟨w1.heap.size, 0, none⟩ = some (.int .i64 p.a) := hat3.cell 0; have b1 : w3.cell? ⟨w1.heap.size, 1, none⟩ = some (.int .i64 p.l) := hat3.cell 1; have b2 : w3.cell? ⟨w1.heap.size, 2, none⟩ = some (.int .i64 p.c) := hat3.cell 2))
          refine (points1 Bo (w1.heap.size + 2) v acc d.1 p.a p.l p.c w3 ((fun {b cs t} (h : Blk W1 b cs t) => Blk.below h hb3 h.lt) hv1) (own_below hown1 hb3 (Nat.le_refl _)) (by omega) (by omega) (by omega)).mono ?_
          rintro e w6 ⟨rfl, v6, hv6, hown6, hbel6, hoth6, hs6⟩
          have hnv : ∀ k, k < w1.heap.size + 2 → some k ≠ v.ownBlock := fun k hk e => by have := (hown1.lt k e.symm).1; omega
          have hat6 : Blk w6 w1.heap.size _ _ := ((fun {b cs t} (h : Blk W1 b cs t) => Blk.below h hb3 h.lt) hat1).of (hoth6 _ (by omega) (by omega) (hnv _ (by omega)))
          have d0 : w6.cell? ⟨w1.heap.size, 0, none⟩ = some (.int .i64 p.a) := hat6.cell 0
          have d1 : w6.cell? ⟨w1.heap.size, 1, none⟩ = some (.int .i64 p.l) := hat6.cell 1
          have d2 : w6.cell? ⟨w1.heap.size, 2, none⟩ = some (.int .i64 p.c) := hat6.cell 2
          go_wp2_with (go_at_call 76; refine (next_any p.a p.l p.c d.1 d.2 _ (by omega)).mono ?_; rintro e w7 ⟨rfl, hb7⟩; have hat7 := hat6.below hb7 (by omega); have e0 : w7.cell? ⟨w1.heap.size, 0, none⟩ = some (.int .i64 p.a) := hat7.cell 0; have e1 : w7.cell? ⟨w1.heap.size, 1, none⟩ = some (.int .i64 p.l) := hat7.cell 1; have e2 : w7.cell? ⟨w1.heap.size, 2, none⟩ = some (.int .i64 p.c) := hat7.cell 2; have f0 := hat7.free 0; have f1 := hat7.free 1; have f2 := hat7.free 2)
          go_roundw
          case rel =>
            have hsz7 := hb7.size
            have hd := HD.out
            have hd' : U.dec (List.drop i s.data.toList) = d := hd
            have hkk : ∀ k, k < w1.heap.size → Bo < k → w7.heap[k]? = wr.heap[k]? := fun k h1 h2 => by
              rw [hb7.block k (by omega), hoth6 k (by omega) (by omega) (hnv _ (by omega)), hb3.block k (by omega), hoth1 k (by omega)]
            have hit7 : w7.heap[w1.heap.size + 1]? = some (.stringIter s (i + d.2)) := by
              rw [hb7.block _ (by omega), hoth6 _ (by omega) (by omega) (hnv _ (by omega)), hb3.block _ (by omega)]; exact hit1
            have st := HR.out.step (wn := ((w7.setCell ⟨w1.heap.size, 0, none⟩ (.int .i64 (U.next p d.1 d.2).a)).setCell ⟨w1.heap.size, 1, none⟩ (.int .i64 (U.next p d.1 d.2).l)).setCell ⟨w1.heap.size, 2, none⟩ (.int .i64 (U.next p d.1 d.2).c)) hlt hg
            rw [hd] at st
            obtain ⟨b', R'⟩ := st (fun k h1 h2 => by rw [Below.heap_setCell _ _ _ _ (by simp; omega), Below.heap_setCell _ _ _ _ (by simp; omega), Below.heap_setCell _ _ _ _ (by simp; omega)]; exact hkk k h1 (by omega))
              (by simp [World.setCell]; omega) (by rw [Below.heap_setCell _ _ _ _ (by simp), Below.heap_setCell _ _ _ _ (by simp), Below.heap_setCell _ _ _ _ (by simp)]; exact hit7)
              (((hat7.set 0 _).set 1 _).set 2 _)
            refine ⟨_, b', _, _, v6, R', ?_, ?_, ?_⟩
            · exact (((Blk.below hv6 hb7 (by omega)).setOther (by simp; omega) _).setOther (by simp; omega) _).setOther (by simp; omega) _
            · rw [List.length_append, List.length_singleton]
              exact ownsRow_setCell_below (ownsRow_setCell_below (ownsRow_setCell_below (own_below hown6 hb7 (Nat.le_refl _)) (by simp) _) (by simp) _) (by simp) _
            · exact ((((hbel1.trans (hb3.mono (by omega))).trans (hbel6.trans (hb7.mono (by omega)))).setCell (p := ⟨w1.heap.size, 0, none⟩) (by simp; omega) _).setCell (p := ⟨w1.heap.size, 1, none⟩) (by simp; omega) _).setCell (p := ⟨w1.heap.size, 2, none⟩) (by simp; omega) _
          case measure =>
            have hsz7 := hb7.size
            have hit7 : w7.heap[w1.heap.size + 1]? = some (.stringIter s (i + d.2)) := by
              rw [hb7.block _ (by omega), hoth6 _ (by omega) (by omega) (hnv _ (by omega)), hb3.block _ (by omega)]; exact hit1
            have e1 : wr.iterPos (w1.heap.size + 1) = i := iterPos_of HR.out.hit
            have e2 : (((w7.setCell ⟨w1.heap.size, 0, none⟩ (.int .i64 (U.next p d.1 d.2).a)).setCell ⟨w1.heap.size, 1, none⟩ (.int .i64 (U.next p d.1 d.2).l)).setCell ⟨w1.heap.size, 2, none⟩ (.int .i64 (U.next p d.1 d.2).c)).iterPos (w1.heap.size + 1) = i + d.2 :=
              iterPos_of (by rw [Below.heap_setCell _ _ _ _ (by simp), Below.heap_setCell _ _ _ _ (by simp), Below.heap_setCell _ _ _ _ (by simp)]; exact hit7)
            rw [e1, e2]
            omega
        · have h3 : ((d.1 : Int) == 65533) = false := by simpa using hfd
          clear hfd hne'
          go_wp2_with (go_at_call 74; refine (rl _).mono ?_; rintro e w2 ⟨rfl, rfl⟩)
          refine (points1 Bo (w1.heap.size + 2) v acc d.1 p.a p.l p.c W1 ((fun {b cs t} (h : Blk W1 b cs t) => h) hv1) (hown1) (by omega) (by omega) (by omega)).mono ?_
          rintro e w6 ⟨rfl, v6, hv6, hown6, hbel6, hoth6, hs6⟩
          have hnv : ∀ k, k < w1.heap.size + 2 → some k ≠ v.ownBlock := fun k hk e => by have := (hown1.lt k e.symm).1; omega
          have hat6 : Blk w6 w1.heap.size _ _ := ((fun {b cs t} (h : Blk W1 b cs t) => h) hat1).of (hoth6 _ (by omega) (by omega) (hnv _ (by omega)))
          have d0 : w6.cell? ⟨w1.heap.size, 0, none⟩ = some (.int .i64 p.a) := hat6.cell 0
          have d1 : w6.cell? ⟨w1.heap.size, 1, none⟩ = some (.int .i64 p.l) := hat6.cell 1
          have d2 : w6.cell? ⟨w1.heap.size, 2, none⟩ = some (.int .i64 p.c) := hat6.cell 2
          go_wp2_with (go_at_call 76; refine (next_any p.a p.l p.c d.1 d.2 _ (by omega)).mono ?_; rintro e w7 ⟨rfl, hb7⟩; have hat7 := hat6.below hb7 (by omega); have e0 : w7.cell? ⟨w1.heap.size, 0, none⟩ = some (.int .i64 p.a) := hat7.cell 0; have e1 : w7.cell? ⟨w1.heap.size, 1, none⟩ = some (.int .i64 p.l) := hat7.cell 1; have e2 : w7.cell? ⟨w1.heap.size, 2, none⟩ = some (.int .i64 p.c) := hat7.cell 2; have f0 := hat7.free 0; have f1 := hat7.free 1; have f2 := hat7.free 2)
          go_roundw
          case rel =>
            have hsz7 := hb7.size
            have hd := HD.out
            have hd' : U.dec (List.drop i s.data.toList) = d := hd
            have hkk : ∀ k, k < w1.heap.size → Bo < k → w7.heap[k]? = wr.heap[k]? := fun k h1 h2 => by
              rw [hb7.block k (by omega), hoth6 k (by omega) (by omega) (hnv _ (by omega)), hoth1 k (by omega)]
            have hit7 : w7.heap[w1.heap.size + 1]? = some (.stringIter s (i + d.2)) := by
              rw [hb7.block _ (by omega), hoth6 _ (by omega) (by omega) (hnv _ (by omega))]; exact hit1
            have st := HR.out.step (wn := ((w7.setCell ⟨w1.heap.size, 0, none⟩ (.int .i64 (U.next p d.1 d.2).a)).setCell ⟨w1.heap.size, 1, none⟩ (.int .i64 (U.next p d.1 d.2).l)).setCell ⟨w1.heap.size, 2, none⟩ (.int .i64 (U.next p d.1 d.2).c)) hlt hg
            rw [hd] at st
            obtain ⟨b', R'⟩ := st (fun k h1 h2 => by rw [Below.heap_setCell _ _ _ _ (by simp; omega), Below.heap_setCell _ _ _ _ (by simp; omega), Below.heap_setCell _ _ _ _ (by simp; omega)]; exact hkk k h1 (by omega))
              (by simp [World.setCell]; omega) (by rw [Below.heap_setCell _ _ _ _ (by simp), Below.heap_setCell _ _ _ _ (by simp), Below.heap_setCell _ _ _ _ (by simp)]; exact hit7)
              (((hat7.set 0 _).set 1 _).set 2 _)
            refine ⟨_, b', _, _, v6, R', ?_, ?_, ?_⟩
            · exact (((Blk.below hv6 hb7 (by omega)).setOther (by simp; omega) _).setOther (by simp; omega) _).setOther (by simp; omega) _
            · rw [List.length_append, List.length_singleton]
              exact ownsRow_setCell_below (ownsRow_setCell_below (ownsRow_setCell_below (own_below hown6 hb7 (Nat.le_refl _)) (by simp) _) (by simp) _) (by simp) _
            · exact ((((hbel1).trans (hbel6.trans (hb7.mono (by omega)))).setCell (p := ⟨w1.heap.size, 0, none⟩) (by simp; omega) _).setCell (p := ⟨w1.heap.size, 1, none⟩) (by simp; omega) _).setCell (p := ⟨w1.heap.size, 2, none⟩) (by simp; omega) _
          case measure =>
            have hsz7 := hb7.size
            have hit7 : w7.heap[w1.heap.size + 1]? = some (.stringIter s (i + d.2)) := by
              rw [hb7.block _ (by omega), hoth6 _ (by omega) (by omega) (hnv _ (by omega))]; exact hit1
            have e1 : wr.iterPos (w1.heap.size + 1) = i := iterPos_of HR.out.hit
            have e2 : (((w7.setCell ⟨w1.heap.size, 0, none⟩ (.int .i64 (U.next p d.1 d.2).a)).setCell ⟨w1.heap.size, 1, none⟩ (.int .i64 (U.next p d.1 d.2).l)).setCell ⟨w1.heap.size, 2, none⟩ (.int .i64 (U.next p d.1 d.2).c)).iterPos (w1.heap.size + 1) = i + d.2 :=
              iterPos_of (by rw [Below.heap_setCell _ _ _ _ (by simp), Below.heap_setCell _ _ _ _ (by simp), Below.heap_setCell _ _ _ _ (by simp)]; exact hit7)
            rw [e1, e2]
            omega
    · have hnx : ∀ ty, (Instr.next (.pointer (some ⟨w1.heap.size + 1, 0, none⟩)) true ty).run Tryz.prog wr = _ := fun ty => Lib.run_next_end_at wr (w1.heap.size + 1) s i ty R.hit hlt
      have c0 : wr.cell? ⟨w1.heap.size, 0, none⟩ = some (.int .i64 p.a) := R.hat.cell 0
      have c1 : wr.cell? ⟨w1.heap.size, 1, none⟩ = some (.int .i64 p.l) := R.hat.cell 1
      have c2 : wr.cell? ⟨w1.heap.size, 2, none⟩ = some (.int .i64 p.c) := R.hat.cell 2
      have f10 := R.hr1.free 0; have f11 := R.hr1.free 1; have f12 := R.hr1.free 2
      have f20 := R.hr2.free 0; have f21 := R.hr2.free 1; have f22 := R.hr2.free 2; have f23 := R.hr2.free 3
      have c10 : wr.cell? ⟨w.heap.size, 0, none⟩ = some (.int .i64 0) := R.hr1.cell 0
      have c11 : wr.cell? ⟨w.heap.size, 1, none⟩ = some (.int .i64 0) := R.hr1.cell 1
      have c12 : wr.cell? ⟨w.heap.size, 2, none⟩ = some (.int .i64 0) := R.hr1.cell 2
      have c20 : wr.cell? ⟨w.heap.size + 1, 0, none⟩ = some (.int .i64 0) := R.hr2.cell 0
      have c21 : wr.cell? ⟨w.heap.size + 1, 1, none⟩ = some (.int .i64 0) := R.hr2.cell 1
      have c22 : wr.cell? ⟨w.heap.size + 1, 2, none⟩ = some (.int .i64 0) := R.hr2.cell 2
      have c23 : wr.cell? ⟨w.heap.size + 1, 3, none⟩ = some (.int .i64 0) := R.hr2.cell 3
      have HR := Lib.hid R
      clear R
      go_wp2
      have hlen : s.data.toList.length = s.size := hlen0
      have e := U.scan_end s.data.toList b i p (by omega)
      have s1 := HR.out.sc1
      have s2 := HR.out.sc2
      rw [e] at s1 s2
      have hne : ¬ 4000 < s.data.toList.length := by omega
      have hE : U.eE s.data.toList = 0 := by simp only [U.eE, ← s2, if_neg hne]; rfl
      have hP : U.eP s.data.toList = U.zero := by simp only [U.eP, ← s2, if_neg hne]; rfl
      have hEnd : U.endP s.data.toList = p := by simp only [U.endP, ← s2, if_neg hne]; rfl
      simp only [List.append_nil] at s1
      rw [← s1, hE, hP, hEnd]
      refine bodyPost_ret (v := .tuple #[.agg #[.int .i64 p.a, .int .i64 p.l, .int .i64 p.c], .agg #[.int .i64 0, .int .i64 0, .int .i64 0, .int .i64 0]]) (by simp [results, Tryz.results48, go_sem, c10, c11, c12, c20, c21, c22, c23]) rfl ⟨rfl, v, ?_, ?_, ?_⟩
      · repeat (with_reducible first | exact hvr | refine Blk.drew ?_ | refine Blk.setOther ?_ (by simp <;> omega) _)
      · refine own_base (base := w1.heap.size + 2) ?_ (by omega)
        repeat (with_reducible first | exact hown | refine own_drew ?_ | refine ownsRow_setCell_below ?_ (by simp <;> omega) _)
      · repeat (with_reducible first | exact hbel | refine Below.drew ?_ | refine Below.setCell ?_ (by simp <;> omega) _)
end Go.Proofs.YtaojgcioljcpmaaGreatDoor
