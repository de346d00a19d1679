/- Contracts: lex.text, the reader's while. -/
import Derived.Test.YtaojgcioljcpmaaGreatDoorLexA
import Derived.Test.YtaojgcioljcpmaaGreatDoorBld
import Derived.Test.YtaojgcioljcpmaaGreatDoorSeg
namespace Go.Proofs.YtaojgcioljcpmaaGreatDoor
open Go.RowKit

theorem textOf_len (l : List U.Pt) : (T.textOf l).length ≤ 4 * l.length := by
  induction l with
  | nil => simp [T.textOf]
  | cons x l ih =>
    have := U.enc_length x.r
    simp only [T.textOf, List.flatMap_cons, List.length_append, List.length_cons] at ih ⊢
    omega
theorem take_snoc' {α : Type} (l : List α) (k : Nat) (h : k < l.length) : l.take (k + 1) = l.take k ++ [l[k]'h] := by
  rw [List.take_add_one, List.getElem?_eq_getElem h]; rfl
theorem valid_range {r : Int} (h : Lib.validRune r = true) : 0 ≤ r ∧ r ≤ 1114111 := by
  have := (U.valid_iff r).1 h
  omega

set_option maxHeartbeats 1000000 in
theorem text_any (l : List U.Pt) (m : Nat) (hm : l.length = m) (a : Option Addr) (c : Nat) (w : World) (h : Pts w w.heap.size a c l) (hl : m ≤ 20000) (hok : ∀ x ∈ l, Lib.validRune x.r = true) :
    Calls Tryz.prog 78 #[.slice a m c] w fun e w' => e = .returned (.string ⟨(T.textOf l).toArray⟩) ∧ Below w.heap.size w w' := by
  have HM := Lib.hid hm
  have HR := Lib.hid h
  have HO := Lib.hid hok
  clear hm h hok
  go_enter Tryz.func78, Tryz.ntmps78
  go_wp2
  go_loopw [8] (fun u wr => ∃ k : Nat, k ≤ m ∧ u = .int .i64 k ∧ Lib.IsBuilderF 40 5 w.heap.size w.heap.size (Lib.byteCells (T.textOf (l.take k))) wr ∧ Below w.heap.size w wr) (fun u _ => m - (intOf u).toNat)
  case atStart =>
    refine ⟨0, Nat.zero_le _, rfl, Lib.IsBuilderF.of (Lib.fresh_isBuilder _ _ w), ?_⟩
    (repeat (with_reducible first | exact Below.refl _ _ | refine Below.setCell ?_ ?_ _ | refine Below.alloc ?_ ?_ _ | refine Below.drewN ?_ _ | refine Below.drew ?_)) <;> first | omega | (simp; omega) | (simp; done)
  case round =>
    obtain ⟨k, hk, rfl, hbu, hbel⟩ := hrel
    have hs := hbel.size
    by_cases hlt : k < m
    · have hkl : k < l.length := by rw [HM.out]; exact hlt
      obtain ⟨g, off, rfl, hg, hc, d0, d1, d2, d3⟩ := HR.out.at k hkl
      have hv := HO.out _ (List.getElem_mem hkl)
      have hbr := valid_range hv
      have hlen : (T.textOf (l.take k)).length ≤ 4 * k := Nat.le_trans (textOf_len _) (by rw [List.length_take]; omega)
      obtain ⟨x, hx⟩ : ∃ x, l[k]'hkl = x := ⟨_, rfl⟩
      rw [hx] at d0 d1 d2 d3 hv hbr
      have HX := Lib.hid hx
      have e0 := (hbel.cell (p := ⟨g, off + k * 4, none⟩) hg).trans d0
      have e1 := (hbel.cell (p := ⟨g, off + k * 4 + 1, none⟩) hg).trans d1
      have e2 := (hbel.cell (p := ⟨g, off + k * 4 + 2, none⟩) hg).trans d2
      have e3 := (hbel.cell (p := ⟨g, off + k * 4 + 3, none⟩) hg).trans d3
      have hkm : (k : Int) < (m : Int) := by omega
      clear hx d0 d1 d2 d3
      go_wp2_with (go_at_call 83; refine (bld_rune w.heap.size w.heap.size _ x.r (by omega) (by omega) _ (Lib.IsBuilderF.alloc hbu _) (by simp [Lib.byteCells_length]; omega) (by simp; omega)).mono ?_)
      rintro e w2 ⟨rfl, hb2, hk2, _⟩
      go_wp2
      go_roundw
      case rel =>
        refine ⟨k + 1, hlt, by go_num, ?_, ?_⟩
        · have : Lib.byteCells (T.textOf (l.take (k + 1))) = Lib.byteCells (T.textOf (l.take k)) ++ Lib.runeCells x.r := by
            rw [take_snoc' l k hkl, T.textOf_snoc, HX.out, Lib.byteCells_append, Lib.byteCells_encodeRune]
          rw [this]
          exact .inr hb2
        · exact (hbel.alloc (by omega) _).trans hk2
      case measure => simp [intOf]; omega
    · have hkm : k = m := by omega
      subst hkm
      have e : l.take k = l := by rw [← HM.out]; exact List.take_length
      rw [e] at hbu
      go_wp2_with (go_at_call 17; refine (Tryz.Builder_String_any_k w.heap.size w.heap.size (T.textOf l) _ hbu (by omega)).mono ?_)
      rintro e w2 ⟨rfl, _, hk2, _⟩
      go_wp2
      go_ret
      exact ⟨rfl, hbel.trans hk2⟩

theorem Keep.cell {b : Nat} {w w' : World} (h : Keep b w w') {p : Addr} (hp : p.block < w.heap.size) (hb : p.block ≠ b) : w'.cell? p = w.cell? p := World.cell?_of_block (w := w) (h.block p.block hp hb)

/-- the place of a reader -/
def posOf (b : Nat) (w : World) : Nat := (intOf ((w.cell? ⟨b, 1, none⟩).getD (.int .i64 0))).toNat
theorem ReadAt.pos {w : World} {b B : Nat} {l : List U.Pt} {i : Nat} {e : Int} {p : U.Pos} (h : ReadAt w b B l i e p) : posOf b w = i := by
  obtain ⟨a, c, ⟨_, c1, _⟩, _⟩ := h.cells
  simp [posOf, c1, intOf]

theorem count_in (ks : List Int) (l : List U.Pt) (i : Nat) (h : i < l.length) (hi : T.isIn ks (l[i]'h) = true) : T.count ks (l.drop i) = T.count ks (l.drop (i + 1)) + 1 := by
  rw [List.drop_eq_getElem_cons h]
  simp [T.count, hi]
theorem count_out (ks : List Int) (l : List U.Pt) (i : Nat) (h : i < l.length) (hi : T.isIn ks (l[i]'h) = false) : T.count ks (l.drop i) = 0 := by
  rw [List.drop_eq_getElem_cons h]
  simp [T.count, hi]
theorem count_end (ks : List Int) (l : List U.Pt) (i : Nat) (h : l.length ≤ i) : T.count ks (l.drop i) = 0 := by
  rw [List.drop_of_length_le h]; rfl

set_option maxHeartbeats 2000000 in
theorem while_any (b B i kb kc : Nat) (ks : List Int) (l : List U.Pt) (e : Int) (p : U.Pos) (w : World) (h : ReadAt w b B l i e p) (hkb : kb < w.heap.size) (hne : kb ≠ b)
    (hks : ∀ j, j < ks.length → w.cell? ⟨kb, 0 + j, none⟩ = some (.int .i64 (ks.getD j 0))) (hk4 : ks.length ≤ 4) :
    Calls Tryz.prog 50 #[.pointer (some ⟨b, 0, none⟩), .slice (some ⟨kb, 0, none⟩) ks.length kc] w fun o w' =>
      o = .returned (.string ⟨(T.textOf ((l.drop i).take (T.count ks (l.drop i)))).toArray⟩) ∧ ReadAt w' b B l (i + T.count ks (l.drop i)) e p ∧ Keep b w w' := by
  obtain ⟨N, hN⟩ : ∃ N, T.count ks (l.drop i) = N := ⟨_, rfl⟩
  have hNl : N ≤ l.length - i := by rw [← hN, ← List.length_drop]; exact T.count_le _ _
  rw [hN]
  obtain ⟨m, hm⟩ : ∃ m, l.length = m := ⟨_, rfl⟩
  have HM := Lib.hid hm
  have HN := Lib.hid hN
  have HKS := Lib.hid hks
  have HR := Lib.hid h
  have hbw := h.lt
  obtain ⟨a, c, ⟨c0, c1, _, _, _, _⟩, _, hrow⟩ := h.cells
  rw [hm] at c0 hNl
  have him : i ≤ m := by rw [← hm]; exact h.i_le
  have hsm : m ≤ 20000 := by rw [← hm]; exact h.small
  clear hN hm hks h
  have HROW := Lib.hid hrow
  clear hrow
  go_enter Tryz.func50, Tryz.ntmps50
  go_wp2
  go_loopw [] (fun wr => ∃ k : Nat, k ≤ N ∧ ReadAt wr b B l (i + k) e p ∧ Keep b w wr ∧ Hid (N = k + T.count ks (l.drop (i + k)))) (fun wr => m - posOf b wr)
  case atStart =>
    exact ⟨0, Nat.zero_le _, HR.out, Keep.refl _ _, by show _ = _; rw [Nat.add_zero, HN.out, Nat.zero_add]⟩
  case round =>
    obtain ⟨k, hk, hrd, hkp, HC⟩ := hrel
    have hpos := hrd.pos
    obtain ⟨a2, c2, ⟨d0, d1, _, _, _, _⟩, hf, hrow⟩ := hrd.cells
    have f1 := hf 1
    rw [HM.out] at d0
    clear hf
    obtain ⟨j, hj⟩ : ∃ j, i + k = j := ⟨_, rfl⟩
    rw [hj] at hrd HC hpos d1
    have HRD := Lib.hid hrd
    clear hrd
    by_cases hlt : j < m
    · have hil : j < l.length := by rw [HM.out]; exact hlt
      obtain ⟨g, off, rfl, hg, hc, e0, _, _, _⟩ := hrow.at j hil
      rw [HM.out] at hc
      have hdj : decide (j < m) = true := decide_eq_true hlt
      have HPT := Lib.hid hrow
      clear hrow
      obtain ⟨r, hr⟩ : ∃ r, (l[j]'hil).r = r := ⟨_, rfl⟩
      rw [hr] at e0
      have hkc : ∀ W : World, (∃ q, W = wr.drewN q) → Calls Tryz.prog 77 #[.slice (some ⟨kb, 0, none⟩) ks.length kc, .int .i64 (T.kindR r)] W fun e w' => e = .returned (.bool (ks.contains (T.kindR r))) ∧ w' = W := by
        rintro W ⟨q, rfl⟩
        have := Tryz.slices_Contains_int kb 0 ks.length kc ks (T.kindR r) (wr.drewN q) (Nat.le_refl _) (by omega) (fun j hj => (hkp.cell (p := ⟨kb, 0 + j, none⟩) hkb hne).trans (HKS.out j hj))
        rw [List.take_length] at this
        exact this
      have hin' : T.isIn ks (l[j]'hil) = ks.contains (T.kindR r) := by unfold T.isIn; rw [hr]
      obtain ⟨t, ht⟩ : ∃ t, ks.contains (T.kindR r) = t := ⟨_, rfl⟩
      rw [ht] at hkc hin'
      have HKC := Lib.hid hkc
      have HIN := Lib.hid hin'
      have hcast : (j : Int) < (m : Int) := by omega
      clear hkc hin' ht hr
      cases t
      · have hNk : N = k := by rw [HC.out, count_out ks l j hil HIN.out, Nat.add_zero]
        go_wp2
        go_quiet ((first | (go_at_call 53; exact Calls.quiet_of_same (kind_any _ _)) | (go_at_call 77; exact Calls.quiet_of_same (HKC.out _ ⟨_, rfl⟩))))
        go_wp2
        have HNK := Lib.hid hNk
        have HJ := Lib.hid hj
        have hjm : j ≤ m := by have := HRD.out.i_le; rw [HM.out] at this; exact this
        have htx : ∀ q, Calls Tryz.prog 78 #[.slice (some ⟨g, off + i * 4, none⟩) (j - i) (c2 - i)] (wr.drewN q) fun e w' => e = .returned (.string ⟨(T.textOf ((l.drop i).take N)).toArray⟩) ∧ Below wr.heap.size wr w' := by
          intro q
          have hNj : j - i = N := by omega
          have hB : B ≤ wr.heap.size := Nat.le_trans HRD.out.below (Nat.le_of_lt HRD.out.lt)
          have := text_any ((l.drop i).take (j - i)) (j - i) (by rw [List.length_take, List.length_drop, HM.out]; omega) (some ⟨g, off + i * 4, none⟩) (c2 - i) (wr.drewN q)
            (((HPT.out.sub i j (by omega) (by rw [HM.out]; exact hjm)).below (Below.drewN (Below.refl _ _) _)).mono hB) (by omega) (fun x hx => HRD.out.ok x (List.mem_of_mem_drop (List.mem_of_mem_take hx)))
          rw [hNj] at this ⊢
          exact this.mono fun e w' h => ⟨h.1, (Below.drewN (Below.refl _ _) _).trans h.2⟩
        have HTX := Lib.hid htx
        have hij : i ≤ j := by omega
        clear htx hNk hj
        refine wp_region_segs [10] (by kernel_rfl) (by kernel_rfl) ?_
        rw [wpSegs]
        simp only [List.take_succ_cons, List.take_zero, List.drop_succ_cons, List.drop_zero]
        repeat (go_big_quiet_step (fail))
        refine wpQuiet_nil ?_
        rintro _ ⟨nq2, rfl⟩
        go_wp2_with (go_at_call 78; refine (HTX.out _).mono ?_; rintro _ w2 ⟨rfl, hb2⟩)
        show wpSegs _ _ _ _ _ _ _
        rw [wpSegs]
        repeat (go_big_quiet_step (fail))
        refine wpQuiet_nil ?_
        rintro _ ⟨nq3, rfl⟩
        go_wp2
        go_ret
        have hb3 : Below wr.heap.size wr (w2.drewN nq3) := Below.drewN hb2 _
        refine ⟨(by first | rfl | (rw [hi0]; rfl)), ?_, hkp.below hb3⟩
        have := HRD.out.keep hb3
        rwa [← HJ.out, ← HNK.out] at this
      · have hNk : N = (k + 1) + T.count ks (l.drop (i + (k + 1))) := by rw [HC.out, count_in ks l j hil HIN.out, ← Nat.add_assoc i k 1, hj]; omega
        have HNK := Lib.hid hNk
        clear hNk
        go_wp2
        go_quiet ((first | (go_at_call 53; exact Calls.quiet_of_same (kind_any _ _)) | (go_at_call 77; exact Calls.quiet_of_same (HKC.out _ ⟨_, rfl⟩))))
        go_wp2
        have hmv := ((HRD.out.drewN nq).move (j := i + (k + 1)) (by omega) ((j : Int) + 1) (by omega))
        go_roundw
        case rel =>
          exact ⟨k + 1, by have := HNK.out; omega, hmv, (hkp.drewN _).setOwn _ _, HNK.out⟩
        case measure =>
          have h1 := hmv.pos
          rw [h1, hpos]
          omega
    · have hdj : decide (j < m) = false := decide_eq_false hlt
      have hNk : N = k := by rw [HC.out, count_end ks l j (by rw [HM.out]; omega), Nat.add_zero]
      go_wp2
      go_quiet (fail)
      go_wp2
      rcases hrow with ⟨rfl, rfl, hl0⟩ | ⟨g, off, rfl, hg, hc, hx⟩
      · have hm0 : m = 0 := by rw [← HM.out, hl0]; rfl
        have hj0 : j = 0 := by have := HRD.out.i_le; rw [HM.out] at this; omega
        have hi0 : i = 0 := by omega
        have hpe : Pts wr B none 0 ((l.drop i).take 0) := .inl ⟨rfl, rfl, List.take_zero⟩
        clear hl0
        have HNK := Lib.hid hNk
        have HJ := Lib.hid hj
        have hjm : j ≤ m := by have := HRD.out.i_le; rw [HM.out] at this; exact this
        have htx : ∀ q, Calls Tryz.prog 78 #[.slice (none) (0) (0)] (wr.drewN q) fun e w' => e = .returned (.string ⟨(T.textOf ((l.drop i).take N)).toArray⟩) ∧ Below wr.heap.size wr w' := by
          intro q
          have hNj : 0 = N := by omega
          have hB : B ≤ wr.heap.size := Nat.le_trans HRD.out.below (Nat.le_of_lt HRD.out.lt)
          have := text_any ((l.drop i).take (0)) (0) (by rw [List.length_take, List.length_drop, HM.out]; omega) (none) (0) (wr.drewN q)
            (((hpe).below (Below.drewN (Below.refl _ _) _)).mono hB) (by omega) (fun x hx => HRD.out.ok x (List.mem_of_mem_drop (List.mem_of_mem_take hx)))
          rw [hNj] at this ⊢
          exact this.mono fun e w' h => ⟨h.1, (Below.drewN (Below.refl _ _) _).trans h.2⟩
        have HTX := Lib.hid htx
        have hij : i ≤ j := by omega
        clear htx hNk hj
        refine wp_region_segs [10] (by kernel_rfl) (by kernel_rfl) ?_
        rw [wpSegs]
        simp only [List.take_succ_cons, List.take_zero, List.drop_succ_cons, List.drop_zero]
        repeat (go_big_quiet_step (fail))
        refine wpQuiet_nil ?_
        rintro _ ⟨nq2, rfl⟩
        go_wp2_with (go_at_call 78; refine (HTX.out _).mono ?_; rintro _ w2 ⟨rfl, hb2⟩)
        show wpSegs _ _ _ _ _ _ _
        rw [wpSegs]
        repeat (go_big_quiet_step (fail))
        refine wpQuiet_nil ?_
        rintro _ ⟨nq3, rfl⟩
        go_wp2
        go_ret
        have hb3 : Below wr.heap.size wr (w2.drewN nq3) := Below.drewN hb2 _
        refine ⟨(by first | rfl | (rw [hi0]; rfl)), ?_, hkp.below hb3⟩
        have := HRD.out.keep hb3
        rwa [← HJ.out, ← HNK.out] at this
      · have HPT := Lib.hid (Pts.of_some hg hc hx)
        clear hx
        rw [HM.out] at hc
        by_cases hci : c2 = i
        · have hji : j = i := by have := HRD.out.i_le; rw [HM.out] at this; omega
          have hpe : Pts wr B (some ⟨g, off, none⟩) 0 ((l.drop i).take 0) := by
            rw [List.take_zero]; exact .inr ⟨g, off, rfl, hg, Nat.le_refl _, fun q u hq => by simp [ptsCells] at hq⟩
          have HNK := Lib.hid hNk
          have HJ := Lib.hid hj
          have hjm : j ≤ m := by have := HRD.out.i_le; rw [HM.out] at this; exact this
          have htx : ∀ q, Calls Tryz.prog 78 #[.slice (some ⟨g, off, none⟩) (0) (0)] (wr.drewN q) fun e w' => e = .returned (.string ⟨(T.textOf ((l.drop i).take N)).toArray⟩) ∧ Below wr.heap.size wr w' := by
            intro q
            have hNj : 0 = N := by omega
            have hB : B ≤ wr.heap.size := Nat.le_trans HRD.out.below (Nat.le_of_lt HRD.out.lt)
            have := text_any ((l.drop i).take (0)) (0) (by rw [List.length_take, List.length_drop, HM.out]; omega) (some ⟨g, off, none⟩) (0) (wr.drewN q)
              (((hpe).below (Below.drewN (Below.refl _ _) _)).mono hB) (by omega) (fun x hx => HRD.out.ok x (List.mem_of_mem_drop (List.mem_of_mem_take hx)))
            rw [hNj] at this ⊢
            exact this.mono fun e w' h => ⟨h.1, (Below.drewN (Below.refl _ _) _).trans h.2⟩
          have HTX := Lib.hid htx
          have hij : i ≤ j := by omega
          clear htx hNk hj
          refine wp_region_segs [10] (by kernel_rfl) (by kernel_rfl) ?_
          rw [wpSegs]
          simp only [List.take_succ_cons, List.take_zero, List.drop_succ_cons, List.drop_zero]
          repeat (go_big_quiet_step (fail))
          refine wpQuiet_nil ?_
          rintro _ ⟨nq2, rfl⟩
          go_wp2_with (go_at_call 78; refine (HTX.out _).mono ?_; rintro _ w2 ⟨rfl, hb2⟩)
          show wpSegs _ _ _ _ _ _ _
          rw [wpSegs]
          repeat (go_big_quiet_step (fail))
          refine wpQuiet_nil ?_
          rintro _ ⟨nq3, rfl⟩
          go_wp2
          go_ret
          have hb3 : Below wr.heap.size wr (w2.drewN nq3) := Below.drewN hb2 _
          refine ⟨(by first | rfl | (rw [hi0]; rfl)), ?_, hkp.below hb3⟩
          have := HRD.out.keep hb3
          rwa [← HJ.out, ← HNK.out] at this
        · have hjm : j ≤ m := by have := HRD.out.i_le; rw [HM.out] at this; exact this
          have HNK := Lib.hid hNk
          have HJ := Lib.hid hj
          have hjm : j ≤ m := by have := HRD.out.i_le; rw [HM.out] at this; exact this
          have htx : ∀ q, Calls Tryz.prog 78 #[.slice (some ⟨g, off + i * 4, none⟩) (j - i) (c2 - i)] (wr.drewN q) fun e w' => e = .returned (.string ⟨(T.textOf ((l.drop i).take N)).toArray⟩) ∧ Below wr.heap.size wr w' := by
            intro q
            have hNj : j - i = N := by omega
            have hB : B ≤ wr.heap.size := Nat.le_trans HRD.out.below (Nat.le_of_lt HRD.out.lt)
            have := text_any ((l.drop i).take (j - i)) (j - i) (by rw [List.length_take, List.length_drop, HM.out]; omega) (some ⟨g, off + i * 4, none⟩) (c2 - i) (wr.drewN q)
              (((HPT.out.sub i j (by omega) (by rw [HM.out]; exact hjm)).below (Below.drewN (Below.refl _ _) _)).mono hB) (by omega) (fun x hx => HRD.out.ok x (List.mem_of_mem_drop (List.mem_of_mem_take hx)))
            rw [hNj] at this ⊢
            exact this.mono fun e w' h => ⟨h.1, (Below.drewN (Below.refl _ _) _).trans h.2⟩
          have HTX := Lib.hid htx
          have hij : i ≤ j := by omega
          clear htx hNk hj
          refine wp_region_segs [10] (by kernel_rfl) (by kernel_rfl) ?_
          rw [wpSegs]
          simp only [List.take_succ_cons, List.take_zero, List.drop_succ_cons, List.drop_zero]
          repeat (go_big_quiet_step (fail))
          refine wpQuiet_nil ?_
          rintro _ ⟨nq2, rfl⟩
          go_wp2_with (go_at_call 78; refine (HTX.out _).mono ?_; rintro _ w2 ⟨rfl, hb2⟩)
          show wpSegs _ _ _ _ _ _ _
          rw [wpSegs]
          repeat (go_big_quiet_step (fail))
          refine wpQuiet_nil ?_
          rintro _ ⟨nq3, rfl⟩
          go_wp2
          go_ret
          have hb3 : Below wr.heap.size wr (w2.drewN nq3) := Below.drewN hb2 _
          refine ⟨(by first | rfl | (rw [hi0]; rfl)), ?_, hkp.below hb3⟩
          have := HRD.out.keep hb3
          rwa [← HJ.out, ← HNK.out] at this
end Go.Proofs.YtaojgcioljcpmaaGreatDoor
