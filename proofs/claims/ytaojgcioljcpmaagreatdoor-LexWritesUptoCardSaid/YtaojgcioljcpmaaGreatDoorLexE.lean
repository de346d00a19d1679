/- Contracts: the reader's word. -/
import Derived.Test.YtaojgcioljcpmaaGreatDoorLexD
import Derived.Deep.RegionHeld3
namespace Go.Proofs.YtaojgcioljcpmaaGreatDoor
open Go.RowKit

/-- a token without its place -/
def tokN (k : T.Tok) : Value := .agg #[.int .u8 k.k, .string ⟨k.t.toArray⟩, .int .i64 k.n, .int .i64 0, .int .i64 0, .int .i64 0]
/-- what a taking method tells -/
def Tells (b B i : Nat) (l : List U.Pt) (p : U.Pos) (w : World) (r : T.Res) (o : Ending) (w' : World) : Prop :=
  match r with
  | .ok t n => o = .returned (tokN t) ∧ ReadAt w' b B l (i + n) 0 p ∧ Keep b w w'
  | .bad E q => o = .returned tokZ ∧ (∃ j, ReadAt w' b B l j E q) ∧ Keep b w w'

theorem ReadAt.setOther {w : World} {b B : Nat} {l : List U.Pt} {i : Nat} {e : Int} {p : U.Pos} (h : ReadAt w b B l i e p) {a : Addr} (ha : b < a.block) (v : Value) : ReadAt (w.setCell a v) b B l i e p := by
  obtain ⟨ao, c, h0, h1⟩ := h.blk
  have hB := h.below
  exact ⟨⟨ao, c, h0.setOther (by omega) _, h1.below ((Below.refl _ _).setCell (by omega) _)⟩, h.below, h.small, h.i_le, h.ok⟩
theorem ReadAt.alloc {w : World} {b B : Nat} {l : List U.Pt} {i : Nat} {e : Int} {p : U.Pos} (h : ReadAt w b B l i e p) (o : Obj) : ReadAt (w.alloc o) b B l i e p := h.keep ((Below.refl _ _).alloc (Nat.le_refl _) _)
theorem ReadAt.drew {w : World} {b B : Nat} {l : List U.Pt} {i : Nat} {e : Int} {p : U.Pos} (h : ReadAt w b B l i e p) : ReadAt w.drew b B l i e p := h.keep ((Below.refl _ _).drew)
theorem fails_at (b B i j : Nat) (l : List U.Pt) (E : Int) (p : U.Pos) (w : World) (h : ReadAt w b B l i 0 p) (hj : j < l.length) :
    Calls Tryz.prog 79 #[.pointer (some ⟨b, 0, none⟩), .int .i64 E, .int .i64 j] w fun o w' =>
      o = .returned (.agg #[.int .u8 0, .string ⟨#[]⟩, .int .i64 0, .int .i64 0, .int .i64 0, .int .i64 0]) ∧ ReadAt w' b B l i E (l[j]'hj).p ∧ Keep b w w' := fails_any b B i j l E p w h hj
theorem headP_drop (l : List U.Pt) (i : Nat) (h : i < l.length) : T.headP (l.drop i) = (l[i]'h).p := by
  rw [List.drop_eq_getElem_cons h]; rfl

theorem held_next {W0 w v : World} {a : Addr} {x : Value} (ha : a.block < W0.heap.size) (h : w.cell? a = some x ∧ Below W0.heap.size W0 w) (hb : Below w.heap.size w v) : v.cell? a = some x ∧ Below W0.heap.size W0 v :=
  ⟨(hb.cell (Nat.lt_of_lt_of_le ha h.2.size)).trans h.1, h.2.trans (hb.mono h.2.size)⟩
theorem held_drew {W0 w : World} {a : Addr} {x : Value} (h : w.cell? a = some x ∧ Below W0.heap.size W0 w) : w.drew.cell? a = some x ∧ Below W0.heap.size W0 w.drew := ⟨h.1, h.2.drew⟩


set_option maxHeartbeats 2000000 in
theorem word_any (G b B i : Nat) (l : List U.Pt) (p : U.Pos) (w : World) (hT : Tabs G w) (hG : G ≤ b) (h : ReadAt w b B l i 0 p) (hi : i < l.length) :
    Calls Tryz.prog 54 #[.pointer (some ⟨b, 0, none⟩)] w (Tells b B i l p w (T.word (l.drop i))) := by
  have HR := Lib.hid h
  have hbw := h.lt
  obtain ⟨a, c, ⟨c0, c1, _, _, _, _⟩, _, hrow⟩ := h.cells
  have him := h.i_le
  have hsm := h.small
  have HI := Lib.hid hi
  obtain ⟨r0, hr0⟩ : ∃ r, (l[i]'hi).r = r := ⟨_, rfl⟩
  obtain ⟨N, hN⟩ : ∃ N, T.count [2, 3, 4, 5] (l.drop i) = N := ⟨_, rfl⟩
  obtain ⟨X, hX⟩ : ∃ X, T.textOf ((l.drop i).take N) = X := ⟨_, rfl⟩
  have hpk : T.peek (l.drop i) 0 = r0 := by rw [peek_at l i 0 hi]; exact hr0
  have hNl : N ≤ l.length - i := by rw [← hN, ← List.length_drop]; exact T.count_le _ _
  obtain ⟨W1, hW1⟩ : ∃ W1, ((w.alloc (.cells #[.int .u8 0, .string ⟨#[]⟩, .int .i64 0, .int .i64 0, .int .i64 0, .int .i64 0] 42)).alloc (.cells #[.int .u8 1, .string ⟨#[]⟩, .int .i64 0, .int .i64 0, .int .i64 0, .int .i64 0] 42)) = W1 := ⟨_, rfl⟩
  have hb1 : Below w.heap.size w W1 := by rw [← hW1]; exact ((Below.refl _ _).alloc (Nat.le_refl _) _).alloc (by simp) _
  have hz1 : W1.heap.size = w.heap.size + 2 := by rw [← hW1]; simp
  have t1 : Blk W1 (w.heap.size + 1) #[.int .u8 1, .string ⟨#[]⟩, .int .i64 0, .int .i64 0, .int .i64 0, .int .i64 0] 42 := by rw [← hW1]; exact Blk.new _ _ _ _ (by simp)
  have hp0 : Calls Tryz.prog 51 #[.pointer (some ⟨b, 0, none⟩), .int .i64 0] W1 fun o w' => o = .returned (.int .i32 r0) ∧ ∃ k, w' = W1.drewN k := by
    rw [← hpk]; exact peek_any b B i 0 l 0 p W1 (h.keep hb1) (by omega)
  have s1 : Blk W1 w.heap.size #[.int .u8 0, .string ⟨#[]⟩, .int .i64 0, .int .i64 0, .int .i64 0, .int .i64 0] 42 := by rw [← hW1]; exact (Blk.new _ _ _ _ rfl).alloc _
  have HS1 := Lib.hid s1
  have hwh : ∀ (W : World) (kb : Nat), ReadAt W b B l i 0 p → kb < W.heap.size → kb ≠ b → (∀ j, j < 4 → W.cell? ⟨kb, 0 + j, none⟩ = some (.int .i64 (([2, 3, 4, 5] : List Int).getD j 0))) →
      Calls Tryz.prog 50 #[.pointer (some ⟨b, 0, none⟩), .slice (some ⟨kb, 0, none⟩) 4 4] W fun o w' => o = .returned (.string ⟨X.toArray⟩) ∧ ReadAt w' b B l (i + N) 0 p ∧ Keep b W w' := by
    intro W kb h1 h2 h3 h4
    have := while_any b B i kb 4 [2, 3, 4, 5] l 0 p W h1 h2 h3 h4 (by decide)
    rw [hN, hX] at this
    exact this
  have HW1 := Lib.hid hW1
  clear hW1
  have HWH := Lib.hid hwh
  have HP0 := Lib.hid hp0
  have HPK := Lib.hid hpk
  have HN := Lib.hid hN
  have HX := Lib.hid hX
  have HT := Lib.hid hT
  clear s1 hr0 hN hX hpk hp0 hT hi hrow hwh h
  go_enter Tryz.func54, Tryz.ntmps54
  go_wp2_with fail
  rw [HW1.out]
  have HT1 := Lib.hid t1
  have u0 := t1.cell 0
  have u1 := t1.cell 1
  have v0 := t1.free 0
  have v1 := t1.free 1
  have HB1 := Lib.hid hb1
  clear t1 hb1
  refine HP0.out.mono ?_
  rintro _ _ ⟨rfl, m0, rfl⟩
  by_cases hk4 : T.kindR r0 = 4
  · go_wp2_with (go_at_call 53; refine (kind_any r0 _).mono ?_; rintro _ _ ⟨rfl, rfl⟩)
    have hbV : Below w.heap.size w (((W1.drewN m0).setCell ⟨w.heap.size + 1, 0, none⟩ (.int .u8 2)).alloc (.cells #[.int .i64 2, .int .i64 3, .int .i64 4, .int .i64 5] 3)) := by
      (repeat (with_reducible first | exact HB1.out | refine Below.setCell ?_ ?_ _ | refine Below.alloc ?_ ?_ _ | refine Below.drewN ?_ _ | refine Below.drew ?_)) <;> first | omega | (simp; omega) | (simp; done)
    have hsV : (((W1.drewN m0).setCell ⟨w.heap.size + 1, 0, none⟩ (.int .u8 2)).alloc (.cells #[.int .i64 2, .int .i64 3, .int .i64 4, .int .i64 5] 3)).heap.size = w.heap.size + 3 := by simp [hz1]
    have htV : Blk (((W1.drewN m0).setCell ⟨w.heap.size + 1, 0, none⟩ (.int .u8 2)).alloc (.cells #[.int .i64 2, .int .i64 3, .int .i64 4, .int .i64 5] 3)) (w.heap.size + 1) #[.int .u8 2, .string ⟨#[]⟩, .int .i64 0, .int .i64 0, .int .i64 0, .int .i64 0] 42 := (Blk.set HT1.out 0 (.int .u8 2)).alloc _
    have hrV : Blk (((W1.drewN m0).setCell ⟨w.heap.size + 1, 0, none⟩ (.int .u8 2)).alloc (.cells #[.int .i64 2, .int .i64 3, .int .i64 4, .int .i64 5] 3)) w.heap.size #[.int .u8 0, .string ⟨#[]⟩, .int .i64 0, .int .i64 0, .int .i64 0, .int .i64 0] 42 := (Blk.setOther HS1.out (by simp) _).alloc _
    have hcV : ∀ j, j < 4 → (((W1.drewN m0).setCell ⟨w.heap.size + 1, 0, none⟩ (.int .u8 2)).alloc (.cells #[.int .i64 2, .int .i64 3, .int .i64 4, .int .i64 5] 3)).cell? ⟨w.heap.size + 2, 0 + j, none⟩ = some (.int .i64 (([2, 3, 4, 5] : List Int).getD j 0)) := by
      intro j hj
      have hb : Blk (((W1.drewN m0).setCell ⟨w.heap.size + 1, 0, none⟩ (.int .u8 2)).alloc (.cells #[.int .i64 2, .int .i64 3, .int .i64 4, .int .i64 5] 3)) (w.heap.size + 2) #[.int .i64 2, .int .i64 3, .int .i64 4, .int .i64 5] 3 := Blk.new _ _ _ _ (by simp [hz1])
      rw [Nat.zero_add, hb.cell j]
      match j, hj with
      | 0, _ => rfl
      | 1, _ => rfl
      | 2, _ => rfl
      | 3, _ => rfl
    refine (HWH.out _ (w.heap.size + 2) (HR.out.keep hbV) (by rw [hsV]; omega) (by omega) hcV).mono ?_
    rintro _ w1 ⟨rfl, hrd1, hk1⟩
    have hkw1 : Keep b w w1 := (Keep.of_below hbV).trans hk1
    have htw1 : Blk w1 (w.heap.size + 1) #[.int .u8 2, .string ⟨#[]⟩, .int .i64 0, .int .i64 0, .int .i64 0, .int .i64 0] 42 := htV.keep hk1 (by omega)
    have hrw1 : Blk w1 w.heap.size #[.int .u8 0, .string ⟨#[]⟩, .int .i64 0, .int .i64 0, .int .i64 0, .int .i64 0] 42 := hrV.keep hk1 (by omega)
    have HRE1 := Lib.hid hrw1
    have hs1 := hk1.size
    rw [hsV] at hs1
    clear hcV htV hsV hbV hrV hrw1
    have w0 := htw1.cell 0
    have w1' := htw1.cell 1
    have w2' := htw1.cell 2
    have w3' := htw1.cell 3
    have w4' := htw1.cell 4
    have w5' := htw1.cell 5
    have z1 := htw1.free 1
    have HRD := Lib.hid hrd1
    have HTW := Lib.hid htw1
    clear hrd1 htw1
    go_wp2_with fail
    obtain ⟨W0, hW0⟩ : ∃ W0, w1.setCell ⟨w.heap.size + 1, 1, none⟩ (.string ⟨X.toArray⟩) = W0 := ⟨_, rfl⟩
    rw [hW0]
    have htW : Blk W0 (w.heap.size + 1) #[.int .u8 2, .string ⟨X.toArray⟩, .int .i64 0, .int .i64 0, .int .i64 0, .int .i64 0] 42 := by rw [← hW0]; exact Blk.set HTW.out 1 _
    have hreW : Blk W0 w.heap.size #[.int .u8 0, .string ⟨#[]⟩, .int .i64 0, .int .i64 0, .int .i64 0, .int .i64 0] 42 := by rw [← hW0]; exact Blk.setOther HRE1.out (by simp) _
    have HRE := Lib.hid hreW
    clear hreW
    have x1 := htW.cell 1
    simp only [List.getElem?_toArray, List.getElem?_cons_zero, List.getElem?_cons_succ] at x1
    have htb : w.heap.size + 1 < W0.heap.size := htW.lt
    have hkW : Keep b w W0 := by rw [← hW0]; exact hkw1.setNew (by simp) _
    have hrW : ReadAt W0 b B l (i + N) 0 p := by
      rw [← hW0]
      exact HRD.out.setOther (by simp; omega) _
    have htW0 : ∀ w', Below W0.heap.size W0 w' → Tabs G w' := fun w' hb => HT.out.below ((hkW.low hG hbw).trans (hb.mono (Nat.le_trans HT.out.le hkW.size)))
    have HTW0 := Lib.hid htW0
    have HTB := Lib.hid htW
    have HKW := Lib.hid hkW
    have HRW := Lib.hid hrW
    clear hW0 htW hkW hrW htW0 hkw1 hk1 w0 w1' w2' w3' w4' w5' z1
    by_cases hw : X ∈ T.words
    · have hwd : decide (X ∈ T.words) = true := decide_eq_true hw
      have hword : T.word (l.drop i) = .ok ⟨5, X, 0, T.headP (l.drop i)⟩ N := by
        simp only [T.word, HN.out, HX.out]
        rw [if_pos (List.contains_iff_mem.2 hw)]
      have HWO := Lib.hid hword
      clear hword hw
      go_region_held3 (fun w' => w'.cell? ⟨w.heap.size + 1, 1, none⟩ = some (.string ⟨X.toArray⟩) ∧ Below W0.heap.size W0 w') (first | assumption | exact ⟨x1, Below.refl _ _⟩ | exact held_drew ⟨x1, Below.refl _ _⟩ | exact held_drew (by assumption) | exact held_next htb ‹_ ∧ Below W0.heap.size W0 _› ‹Below _ _ _›) (first | (go_at_call 19; refine (words_any G _ (HTW0.out _ (And.right ‹_ ∧ Below W0.heap.size W0 _›))).mono ?_; rintro _ w2 ⟨A, rfl, hA, hst, hb2⟩) | (go_at_call 80; refine (contains_any ‹StrAt _ _ _› 6 rfl (by decide) X).mono ?_; rintro _ _ ⟨rfl, rfl⟩))
      have hB := And.right ‹_ ∧ Below W0.heap.size W0 _›
      have hw2s := hB.size
      have tw := HTB.out.below hB HTB.out.lt
      have y0 := tw.cell 0
      have y1 := tw.cell 1
      have y2 := tw.cell 2
      have y3 := tw.cell 3
      have y4 := tw.cell 4
      have y5 := tw.cell 5
      simp only [List.getElem?_toArray, List.getElem?_cons_zero, List.getElem?_cons_succ] at y0 y1 y2 y3 y4 y5
      have q0 := tw.free 0
      have rwb := HRE.out.below hB HRE.out.lt
      have g0 := rwb.cell 0
      have k0 := rwb.free 0
      have g1 := rwb.cell 1
      have k1 := rwb.free 1
      have g2 := rwb.cell 2
      have k2 := rwb.free 2
      have g3 := rwb.cell 3
      have k3 := rwb.free 3
      have g4 := rwb.cell 4
      have k4 := rwb.free 4
      have g5 := rwb.cell 5
      have k5 := rwb.free 5
      simp only [List.getElem?_toArray, List.getElem?_cons_zero, List.getElem?_cons_succ] at g0 g1 g2 g3 g4 g5
      clear rwb
      have hR2 := HRW.out.keep hB
      have hK2 := HKW.out.below hB
      have HR2 := Lib.hid hR2
      have HK2 := Lib.hid hK2
      clear tw hR2 hK2
      go_wp2
      refine bodyPost_ret (v := tokN ⟨5, X, 0, U.zero⟩) (by simp [results, Tryz.results54, go_sem, tokN, g0, g1, g2, g3, g4, g5]) rfl ?_
      rw [HWO.out]
      refine ⟨rfl, ?_, ?_⟩
      · (repeat (with_reducible first | exact HR2.out | refine ReadAt.setOther ?_ ?_ _ | refine ReadAt.alloc ?_ _)) <;> (simp; omega)
      · (repeat (with_reducible first | exact HK2.out | refine Keep.setNew ?_ ?_ _ | refine Keep.alloc ?_ _)) <;> simp
    · have hwd : decide (X ∈ T.words) = false := decide_eq_false hw
      have HW := Lib.hid hw
      clear hw
      go_region_held3 (fun w' => w'.cell? ⟨w.heap.size + 1, 1, none⟩ = some (.string ⟨X.toArray⟩) ∧ Below W0.heap.size W0 w') (first | assumption | exact ⟨x1, Below.refl _ _⟩ | exact held_drew ⟨x1, Below.refl _ _⟩ | exact held_drew (by assumption) | exact held_next htb ‹_ ∧ Below W0.heap.size W0 _› ‹Below _ _ _›) (first | (go_at_call 19; refine (words_any G _ (HTW0.out _ (And.right ‹_ ∧ Below W0.heap.size W0 _›))).mono ?_; rintro _ w2 ⟨A, rfl, hA, hst, hb2⟩) | (go_at_call 80; refine (contains_any ‹StrAt _ _ _› 6 rfl (by decide) X).mono ?_; rintro _ _ ⟨rfl, rfl⟩))
      go_wp2_with fail
      by_cases hp : X ∈ T.prims
      · have hpd : decide (X ∈ T.prims) = true := decide_eq_true hp
        have hword : T.word (l.drop i) = .ok ⟨6, X, 0, T.headP (l.drop i)⟩ N := by
          simp only [T.word, HN.out, HX.out]
          rw [if_neg (fun h => HW.out (List.contains_iff_mem.1 h)), if_pos (List.contains_iff_mem.2 hp)]
        have HWO := Lib.hid hword
        clear hword hp
        go_region_held3 (fun w' => w'.cell? ⟨w.heap.size + 1, 1, none⟩ = some (.string ⟨X.toArray⟩) ∧ Below W0.heap.size W0 w') (first | assumption | exact ⟨x1, Below.refl _ _⟩ | exact held_drew ⟨x1, Below.refl _ _⟩ | exact held_drew (by assumption) | exact held_next htb ‹_ ∧ Below W0.heap.size W0 _› ‹Below _ _ _›) (first | (go_at_call 21; refine (prims_any G _ (HTW0.out _ (And.right ‹_ ∧ Below W0.heap.size W0 _›))).mono ?_; rintro _ w2 ⟨A, rfl, hA, hst, hb2⟩) | (go_at_call 80; refine (contains_any ‹StrAt _ _ _› 10 rfl (by decide) X).mono ?_; rintro _ _ ⟨rfl, rfl⟩))
        have hB := And.right ‹_ ∧ Below W0.heap.size W0 _›
        have hw2s := hB.size
        have tw := HTB.out.below hB HTB.out.lt
        have y0 := tw.cell 0
        have y1 := tw.cell 1
        have y2 := tw.cell 2
        have y3 := tw.cell 3
        have y4 := tw.cell 4
        have y5 := tw.cell 5
        simp only [List.getElem?_toArray, List.getElem?_cons_zero, List.getElem?_cons_succ] at y0 y1 y2 y3 y4 y5
        have q0 := tw.free 0
        have rwb := HRE.out.below hB HRE.out.lt
        have g0 := rwb.cell 0
        have k0 := rwb.free 0
        have g1 := rwb.cell 1
        have k1 := rwb.free 1
        have g2 := rwb.cell 2
        have k2 := rwb.free 2
        have g3 := rwb.cell 3
        have k3 := rwb.free 3
        have g4 := rwb.cell 4
        have k4 := rwb.free 4
        have g5 := rwb.cell 5
        have k5 := rwb.free 5
        simp only [List.getElem?_toArray, List.getElem?_cons_zero, List.getElem?_cons_succ] at g0 g1 g2 g3 g4 g5
        clear rwb
        have hR2 := HRW.out.keep hB
        have hK2 := HKW.out.below hB
        have HR2 := Lib.hid hR2
        have HK2 := Lib.hid hK2
        clear tw hR2 hK2
        go_wp2
        refine bodyPost_ret (v := tokN ⟨6, X, 0, U.zero⟩) (by simp [results, Tryz.results54, go_sem, tokN, g0, g1, g2, g3, g4, g5]) rfl ?_
        rw [HWO.out]
        refine ⟨rfl, ?_, ?_⟩
        · (repeat (with_reducible first | exact HR2.out | refine ReadAt.setOther ?_ ?_ _ | refine ReadAt.alloc ?_ _)) <;> (simp; omega)
        · (repeat (with_reducible first | exact HK2.out | refine Keep.setNew ?_ ?_ _ | refine Keep.alloc ?_ _)) <;> simp
      · have hpd : decide (X ∈ T.prims) = false := decide_eq_false hp
        have HP := Lib.hid hp
        clear hp
        go_region_held3 (fun w' => w'.cell? ⟨w.heap.size + 1, 1, none⟩ = some (.string ⟨X.toArray⟩) ∧ Below W0.heap.size W0 w') (first | assumption | exact ⟨x1, Below.refl _ _⟩ | exact held_drew ⟨x1, Below.refl _ _⟩ | exact held_drew (by assumption) | exact held_next htb ‹_ ∧ Below W0.heap.size W0 _› ‹Below _ _ _›) (first | (go_at_call 21; refine (prims_any G _ (HTW0.out _ (And.right ‹_ ∧ Below W0.heap.size W0 _›))).mono ?_; rintro _ w2 ⟨A, rfl, hA, hst, hb2⟩) | (go_at_call 80; refine (contains_any ‹StrAt _ _ _› 10 rfl (by decide) X).mono ?_; rintro _ _ ⟨rfl, rfl⟩))
        by_cases h24 : 24 < X.length
        · have hword : T.word (l.drop i) = .bad 3 (T.headP (l.drop i)) := by
            simp only [T.word, HN.out, HX.out]
            rw [if_neg (fun h => HW.out (List.contains_iff_mem.1 h)), if_neg (fun h => HP.out (List.contains_iff_mem.1 h)), if_pos h24]
          have HWO := Lib.hid hword
          have h24d : decide (24 < X.length) = true := decide_eq_true h24
          clear hword
          have hB := And.right ‹_ ∧ Below W0.heap.size W0 _›
          have hw2s := hB.size
          have tw := HTB.out.below hB HTB.out.lt
          have y0 := tw.cell 0
          have y1 := tw.cell 1
          have y2 := tw.cell 2
          have y3 := tw.cell 3
          have y4 := tw.cell 4
          have y5 := tw.cell 5
          simp only [List.getElem?_toArray, List.getElem?_cons_zero, List.getElem?_cons_succ] at y0 y1 y2 y3 y4 y5
          have q0 := tw.free 0
          have rwb := HRE.out.below hB HRE.out.lt
          have g0 := rwb.cell 0
          have k0 := rwb.free 0
          have g1 := rwb.cell 1
          have k1 := rwb.free 1
          have g2 := rwb.cell 2
          have k2 := rwb.free 2
          have g3 := rwb.cell 3
          have k3 := rwb.free 3
          have g4 := rwb.cell 4
          have k4 := rwb.free 4
          have g5 := rwb.cell 5
          have k5 := rwb.free 5
          simp only [List.getElem?_toArray, List.getElem?_cons_zero, List.getElem?_cons_succ] at g0 g1 g2 g3 g4 g5
          clear rwb
          have hR2 := HRW.out.keep hB
          have hK2 := HKW.out.below hB
          have HR2 := Lib.hid hR2
          have HK2 := Lib.hid hK2
          clear tw hR2 hK2
          clear y0 y1 y2 y3 y4 y5 g0 g1 g2 g3 g4 g5 k0 k1 k2 k3 k4 k5 q0
          go_wp2_with (go_at_call 79; refine (fails_at b B (i + N) i l 3 p _ HR2.out HI.out).mono ?_; rintro _ w4 ⟨rfl, hrd4, hkp4⟩; have rwb := (HRE.out.below hB HRE.out.lt).keep hkp4 (by omega); have g0 := rwb.cell 0; have k0 := rwb.free 0; have g1 := rwb.cell 1; have k1 := rwb.free 1; have g2 := rwb.cell 2; have k2 := rwb.free 2; have g3 := rwb.cell 3; have k3 := rwb.free 3; have g4 := rwb.cell 4; have k4 := rwb.free 4; have g5 := rwb.cell 5; have k5 := rwb.free 5; simp only [List.getElem?_toArray, List.getElem?_cons_zero, List.getElem?_cons_succ] at g0 g1 g2 g3 g4 g5; clear rwb)
          go_wp2
          refine bodyPost_ret (v := tokZ) (by simp [results, Tryz.results54, go_sem, tokZ, g0, g1, g2, g3, g4, g5]; rfl) rfl ?_
          rw [HWO.out, headP_drop l i HI.out]
          have HR4 := Lib.hid hrd4
          refine ⟨rfl, ⟨i + N, ?_⟩, ?_⟩
          · (repeat (with_reducible first | exact HR4.out | refine ReadAt.setOther ?_ ?_ _ | refine ReadAt.alloc ?_ _)) <;> (simp; omega)
          · (repeat (with_reducible first | exact HK2.out.trans hkp4 | refine Keep.setNew ?_ ?_ _ | refine Keep.alloc ?_ _)) <;> simp
        · have h24d : decide (24 < X.length) = false := decide_eq_false h24
          have hword : T.word (l.drop i) = .ok ⟨2, X, 0, T.headP (l.drop i)⟩ N := by
            simp only [T.word, HN.out, HX.out, HPK.out]
            rw [if_neg (fun h => HW.out (List.contains_iff_mem.1 h)), if_neg (fun h => HP.out (List.contains_iff_mem.1 h)), if_neg h24, (if_pos hk4)]
          have HWO := Lib.hid hword
          clear hword
          have hB := And.right ‹_ ∧ Below W0.heap.size W0 _›
          have hw2s := hB.size
          have tw := HTB.out.below hB HTB.out.lt
          have y0 := tw.cell 0
          have y1 := tw.cell 1
          have y2 := tw.cell 2
          have y3 := tw.cell 3
          have y4 := tw.cell 4
          have y5 := tw.cell 5
          simp only [List.getElem?_toArray, List.getElem?_cons_zero, List.getElem?_cons_succ] at y0 y1 y2 y3 y4 y5
          have q0 := tw.free 0
          have rwb := HRE.out.below hB HRE.out.lt
          have g0 := rwb.cell 0
          have k0 := rwb.free 0
          have g1 := rwb.cell 1
          have k1 := rwb.free 1
          have g2 := rwb.cell 2
          have k2 := rwb.free 2
          have g3 := rwb.cell 3
          have k3 := rwb.free 3
          have g4 := rwb.cell 4
          have k4 := rwb.free 4
          have g5 := rwb.cell 5
          have k5 := rwb.free 5
          simp only [List.getElem?_toArray, List.getElem?_cons_zero, List.getElem?_cons_succ] at g0 g1 g2 g3 g4 g5
          clear rwb
          have hR2 := HRW.out.keep hB
          have hK2 := HKW.out.below hB
          have HR2 := Lib.hid hR2
          have HK2 := Lib.hid hK2
          clear tw hR2 hK2
          go_wp2
          refine bodyPost_ret (v := tokN ⟨2, X, 0, U.zero⟩) (by simp [results, Tryz.results54, go_sem, tokN, g0, g1, g2, g3, g4, g5]) rfl ?_
          rw [HWO.out]
          refine ⟨rfl, ?_, ?_⟩
          · (repeat (with_reducible first | exact HR2.out | refine ReadAt.setOther ?_ ?_ _ | refine ReadAt.alloc ?_ _)) <;> (simp; omega)
          · (repeat (with_reducible first | exact HK2.out | refine Keep.setNew ?_ ?_ _ | refine Keep.alloc ?_ _)) <;> simp
  · have hk4' : (T.kindR r0 == 4) = false := by rw [beq_eq_false_iff_ne]; exact hk4
    have HK4 := Lib.hid hk4
    clear hk4
    go_wp2_with (go_at_call 53; refine (kind_any r0 _).mono ?_; rintro _ _ ⟨rfl, rfl⟩)
    have hbV : Below w.heap.size w ((W1.drewN m0).alloc (.cells #[.int .i64 2, .int .i64 3, .int .i64 4, .int .i64 5] 3)) := by
      (repeat (with_reducible first | exact HB1.out | refine Below.setCell ?_ ?_ _ | refine Below.alloc ?_ ?_ _ | refine Below.drewN ?_ _ | refine Below.drew ?_)) <;> first | omega | (simp; omega) | (simp; done)
    have hsV : ((W1.drewN m0).alloc (.cells #[.int .i64 2, .int .i64 3, .int .i64 4, .int .i64 5] 3)).heap.size = w.heap.size + 3 := by simp [hz1]
    have htV : Blk ((W1.drewN m0).alloc (.cells #[.int .i64 2, .int .i64 3, .int .i64 4, .int .i64 5] 3)) (w.heap.size + 1) #[.int .u8 1, .string ⟨#[]⟩, .int .i64 0, .int .i64 0, .int .i64 0, .int .i64 0] 42 := HT1.out.alloc _
    have hrV : Blk ((W1.drewN m0).alloc (.cells #[.int .i64 2, .int .i64 3, .int .i64 4, .int .i64 5] 3)) w.heap.size #[.int .u8 0, .string ⟨#[]⟩, .int .i64 0, .int .i64 0, .int .i64 0, .int .i64 0] 42 := HS1.out.alloc _
    have hcV : ∀ j, j < 4 → ((W1.drewN m0).alloc (.cells #[.int .i64 2, .int .i64 3, .int .i64 4, .int .i64 5] 3)).cell? ⟨w.heap.size + 2, 0 + j, none⟩ = some (.int .i64 (([2, 3, 4, 5] : List Int).getD j 0)) := by
      intro j hj
      have hb : Blk ((W1.drewN m0).alloc (.cells #[.int .i64 2, .int .i64 3, .int .i64 4, .int .i64 5] 3)) (w.heap.size + 2) #[.int .i64 2, .int .i64 3, .int .i64 4, .int .i64 5] 3 := Blk.new _ _ _ _ (by simp [hz1])
      rw [Nat.zero_add, hb.cell j]
      match j, hj with
      | 0, _ => rfl
      | 1, _ => rfl
      | 2, _ => rfl
      | 3, _ => rfl
    refine (HWH.out _ (w.heap.size + 2) (HR.out.keep hbV) (by rw [hsV]; omega) (by omega) hcV).mono ?_
    rintro _ w1 ⟨rfl, hrd1, hk1⟩
    have hkw1 : Keep b w w1 := (Keep.of_below hbV).trans hk1
    have htw1 : Blk w1 (w.heap.size + 1) #[.int .u8 1, .string ⟨#[]⟩, .int .i64 0, .int .i64 0, .int .i64 0, .int .i64 0] 42 := htV.keep hk1 (by omega)
    have hrw1 : Blk w1 w.heap.size #[.int .u8 0, .string ⟨#[]⟩, .int .i64 0, .int .i64 0, .int .i64 0, .int .i64 0] 42 := hrV.keep hk1 (by omega)
    have HRE1 := Lib.hid hrw1
    have hs1 := hk1.size
    rw [hsV] at hs1
    clear hcV htV hsV hbV hrV hrw1
    have w0 := htw1.cell 0
    have w1' := htw1.cell 1
    have w2' := htw1.cell 2
    have w3' := htw1.cell 3
    have w4' := htw1.cell 4
    have w5' := htw1.cell 5
    have z1 := htw1.free 1
    have HRD := Lib.hid hrd1
    have HTW := Lib.hid htw1
    clear hrd1 htw1
    go_wp2_with fail
    obtain ⟨W0, hW0⟩ : ∃ W0, w1.setCell ⟨w.heap.size + 1, 1, none⟩ (.string ⟨X.toArray⟩) = W0 := ⟨_, rfl⟩
    rw [hW0]
    have htW : Blk W0 (w.heap.size + 1) #[.int .u8 1, .string ⟨X.toArray⟩, .int .i64 0, .int .i64 0, .int .i64 0, .int .i64 0] 42 := by rw [← hW0]; exact Blk.set HTW.out 1 _
    have hreW : Blk W0 w.heap.size #[.int .u8 0, .string ⟨#[]⟩, .int .i64 0, .int .i64 0, .int .i64 0, .int .i64 0] 42 := by rw [← hW0]; exact Blk.setOther HRE1.out (by simp) _
    have HRE := Lib.hid hreW
    clear hreW
    have x1 := htW.cell 1
    simp only [List.getElem?_toArray, List.getElem?_cons_zero, List.getElem?_cons_succ] at x1
    have htb : w.heap.size + 1 < W0.heap.size := htW.lt
    have hkW : Keep b w W0 := by rw [← hW0]; exact hkw1.setNew (by simp) _
    have hrW : ReadAt W0 b B l (i + N) 0 p := by
      rw [← hW0]
      exact HRD.out.setOther (by simp; omega) _
    have htW0 : ∀ w', Below W0.heap.size W0 w' → Tabs G w' := fun w' hb => HT.out.below ((hkW.low hG hbw).trans (hb.mono (Nat.le_trans HT.out.le hkW.size)))
    have HTW0 := Lib.hid htW0
    have HTB := Lib.hid htW
    have HKW := Lib.hid hkW
    have HRW := Lib.hid hrW
    clear hW0 htW hkW hrW htW0 hkw1 hk1 w0 w1' w2' w3' w4' w5' z1
    by_cases hw : X ∈ T.words
    · have hwd : decide (X ∈ T.words) = true := decide_eq_true hw
      have hword : T.word (l.drop i) = .ok ⟨5, X, 0, T.headP (l.drop i)⟩ N := by
        simp only [T.word, HN.out, HX.out]
        rw [if_pos (List.contains_iff_mem.2 hw)]
      have HWO := Lib.hid hword
      clear hword hw
      go_region_held3 (fun w' => w'.cell? ⟨w.heap.size + 1, 1, none⟩ = some (.string ⟨X.toArray⟩) ∧ Below W0.heap.size W0 w') (first | assumption | exact ⟨x1, Below.refl _ _⟩ | exact held_drew ⟨x1, Below.refl _ _⟩ | exact held_drew (by assumption) | exact held_next htb ‹_ ∧ Below W0.heap.size W0 _› ‹Below _ _ _›) (first | (go_at_call 19; refine (words_any G _ (HTW0.out _ (And.right ‹_ ∧ Below W0.heap.size W0 _›))).mono ?_; rintro _ w2 ⟨A, rfl, hA, hst, hb2⟩) | (go_at_call 80; refine (contains_any ‹StrAt _ _ _› 6 rfl (by decide) X).mono ?_; rintro _ _ ⟨rfl, rfl⟩))
      have hB := And.right ‹_ ∧ Below W0.heap.size W0 _›
      have hw2s := hB.size
      have tw := HTB.out.below hB HTB.out.lt
      have y0 := tw.cell 0
      have y1 := tw.cell 1
      have y2 := tw.cell 2
      have y3 := tw.cell 3
      have y4 := tw.cell 4
      have y5 := tw.cell 5
      simp only [List.getElem?_toArray, List.getElem?_cons_zero, List.getElem?_cons_succ] at y0 y1 y2 y3 y4 y5
      have q0 := tw.free 0
      have rwb := HRE.out.below hB HRE.out.lt
      have g0 := rwb.cell 0
      have k0 := rwb.free 0
      have g1 := rwb.cell 1
      have k1 := rwb.free 1
      have g2 := rwb.cell 2
      have k2 := rwb.free 2
      have g3 := rwb.cell 3
      have k3 := rwb.free 3
      have g4 := rwb.cell 4
      have k4 := rwb.free 4
      have g5 := rwb.cell 5
      have k5 := rwb.free 5
      simp only [List.getElem?_toArray, List.getElem?_cons_zero, List.getElem?_cons_succ] at g0 g1 g2 g3 g4 g5
      clear rwb
      have hR2 := HRW.out.keep hB
      have hK2 := HKW.out.below hB
      have HR2 := Lib.hid hR2
      have HK2 := Lib.hid hK2
      clear tw hR2 hK2
      go_wp2
      refine bodyPost_ret (v := tokN ⟨5, X, 0, U.zero⟩) (by simp [results, Tryz.results54, go_sem, tokN, g0, g1, g2, g3, g4, g5]) rfl ?_
      rw [HWO.out]
      refine ⟨rfl, ?_, ?_⟩
      · (repeat (with_reducible first | exact HR2.out | refine ReadAt.setOther ?_ ?_ _ | refine ReadAt.alloc ?_ _)) <;> (simp; omega)
      · (repeat (with_reducible first | exact HK2.out | refine Keep.setNew ?_ ?_ _ | refine Keep.alloc ?_ _)) <;> simp
    · have hwd : decide (X ∈ T.words) = false := decide_eq_false hw
      have HW := Lib.hid hw
      clear hw
      go_region_held3 (fun w' => w'.cell? ⟨w.heap.size + 1, 1, none⟩ = some (.string ⟨X.toArray⟩) ∧ Below W0.heap.size W0 w') (first | assumption | exact ⟨x1, Below.refl _ _⟩ | exact held_drew ⟨x1, Below.refl _ _⟩ | exact held_drew (by assumption) | exact held_next htb ‹_ ∧ Below W0.heap.size W0 _› ‹Below _ _ _›) (first | (go_at_call 19; refine (words_any G _ (HTW0.out _ (And.right ‹_ ∧ Below W0.heap.size W0 _›))).mono ?_; rintro _ w2 ⟨A, rfl, hA, hst, hb2⟩) | (go_at_call 80; refine (contains_any ‹StrAt _ _ _› 6 rfl (by decide) X).mono ?_; rintro _ _ ⟨rfl, rfl⟩))
      go_wp2_with fail
      by_cases hp : X ∈ T.prims
      · have hpd : decide (X ∈ T.prims) = true := decide_eq_true hp
        have hword : T.word (l.drop i) = .ok ⟨6, X, 0, T.headP (l.drop i)⟩ N := by
          simp only [T.word, HN.out, HX.out]
          rw [if_neg (fun h => HW.out (List.contains_iff_mem.1 h)), if_pos (List.contains_iff_mem.2 hp)]
        have HWO := Lib.hid hword
        clear hword hp
        go_region_held3 (fun w' => w'.cell? ⟨w.heap.size + 1, 1, none⟩ = some (.string ⟨X.toArray⟩) ∧ Below W0.heap.size W0 w') (first | assumption | exact ⟨x1, Below.refl _ _⟩ | exact held_drew ⟨x1, Below.refl _ _⟩ | exact held_drew (by assumption) | exact held_next htb ‹_ ∧ Below W0.heap.size W0 _› ‹Below _ _ _›) (first | (go_at_call 21; refine (prims_any G _ (HTW0.out _ (And.right ‹_ ∧ Below W0.heap.size W0 _›))).mono ?_; rintro _ w2 ⟨A, rfl, hA, hst, hb2⟩) | (go_at_call 80; refine (contains_any ‹StrAt _ _ _› 10 rfl (by decide) X).mono ?_; rintro _ _ ⟨rfl, rfl⟩))
        have hB := And.right ‹_ ∧ Below W0.heap.size W0 _›
        have hw2s := hB.size
        have tw := HTB.out.below hB HTB.out.lt
        have y0 := tw.cell 0
        have y1 := tw.cell 1
        have y2 := tw.cell 2
        have y3 := tw.cell 3
        have y4 := tw.cell 4
        have y5 := tw.cell 5
        simp only [List.getElem?_toArray, List.getElem?_cons_zero, List.getElem?_cons_succ] at y0 y1 y2 y3 y4 y5
        have q0 := tw.free 0
        have rwb := HRE.out.below hB HRE.out.lt
        have g0 := rwb.cell 0
        have k0 := rwb.free 0
        have g1 := rwb.cell 1
        have k1 := rwb.free 1
        have g2 := rwb.cell 2
        have k2 := rwb.free 2
        have g3 := rwb.cell 3
        have k3 := rwb.free 3
        have g4 := rwb.cell 4
        have k4 := rwb.free 4
        have g5 := rwb.cell 5
        have k5 := rwb.free 5
        simp only [List.getElem?_toArray, List.getElem?_cons_zero, List.getElem?_cons_succ] at g0 g1 g2 g3 g4 g5
        clear rwb
        have hR2 := HRW.out.keep hB
        have hK2 := HKW.out.below hB
        have HR2 := Lib.hid hR2
        have HK2 := Lib.hid hK2
        clear tw hR2 hK2
        go_wp2
        refine bodyPost_ret (v := tokN ⟨6, X, 0, U.zero⟩) (by simp [results, Tryz.results54, go_sem, tokN, g0, g1, g2, g3, g4, g5]) rfl ?_
        rw [HWO.out]
        refine ⟨rfl, ?_, ?_⟩
        · (repeat (with_reducible first | exact HR2.out | refine ReadAt.setOther ?_ ?_ _ | refine ReadAt.alloc ?_ _)) <;> (simp; omega)
        · (repeat (with_reducible first | exact HK2.out | refine Keep.setNew ?_ ?_ _ | refine Keep.alloc ?_ _)) <;> simp
      · have hpd : decide (X ∈ T.prims) = false := decide_eq_false hp
        have HP := Lib.hid hp
        clear hp
        go_region_held3 (fun w' => w'.cell? ⟨w.heap.size + 1, 1, none⟩ = some (.string ⟨X.toArray⟩) ∧ Below W0.heap.size W0 w') (first | assumption | exact ⟨x1, Below.refl _ _⟩ | exact held_drew ⟨x1, Below.refl _ _⟩ | exact held_drew (by assumption) | exact held_next htb ‹_ ∧ Below W0.heap.size W0 _› ‹Below _ _ _›) (first | (go_at_call 21; refine (prims_any G _ (HTW0.out _ (And.right ‹_ ∧ Below W0.heap.size W0 _›))).mono ?_; rintro _ w2 ⟨A, rfl, hA, hst, hb2⟩) | (go_at_call 80; refine (contains_any ‹StrAt _ _ _› 10 rfl (by decide) X).mono ?_; rintro _ _ ⟨rfl, rfl⟩))
        by_cases h24 : 24 < X.length
        · have hword : T.word (l.drop i) = .bad 3 (T.headP (l.drop i)) := by
            simp only [T.word, HN.out, HX.out]
            rw [if_neg (fun h => HW.out (List.contains_iff_mem.1 h)), if_neg (fun h => HP.out (List.contains_iff_mem.1 h)), if_pos h24]
          have HWO := Lib.hid hword
          have h24d : decide (24 < X.length) = true := decide_eq_true h24
          clear hword
          have hB := And.right ‹_ ∧ Below W0.heap.size W0 _›
          have hw2s := hB.size
          have tw := HTB.out.below hB HTB.out.lt
          have y0 := tw.cell 0
          have y1 := tw.cell 1
          have y2 := tw.cell 2
          have y3 := tw.cell 3
          have y4 := tw.cell 4
          have y5 := tw.cell 5
          simp only [List.getElem?_toArray, List.getElem?_cons_zero, List.getElem?_cons_succ] at y0 y1 y2 y3 y4 y5
          have q0 := tw.free 0
          have rwb := HRE.out.below hB HRE.out.lt
          have g0 := rwb.cell 0
          have k0 := rwb.free 0
          have g1 := rwb.cell 1
          have k1 := rwb.free 1
          have g2 := rwb.cell 2
          have k2 := rwb.free 2
          have g3 := rwb.cell 3
          have k3 := rwb.free 3
          have g4 := rwb.cell 4
          have k4 := rwb.free 4
          have g5 := rwb.cell 5
          have k5 := rwb.free 5
          simp only [List.getElem?_toArray, List.getElem?_cons_zero, List.getElem?_cons_succ] at g0 g1 g2 g3 g4 g5
          clear rwb
          have hR2 := HRW.out.keep hB
          have hK2 := HKW.out.below hB
          have HR2 := Lib.hid hR2
          have HK2 := Lib.hid hK2
          clear tw hR2 hK2
          clear y0 y1 y2 y3 y4 y5 g0 g1 g2 g3 g4 g5 k0 k1 k2 k3 k4 k5 q0
          go_wp2_with (go_at_call 79; refine (fails_at b B (i + N) i l 3 p _ HR2.out HI.out).mono ?_; rintro _ w4 ⟨rfl, hrd4, hkp4⟩; have rwb := (HRE.out.below hB HRE.out.lt).keep hkp4 (by omega); have g0 := rwb.cell 0; have k0 := rwb.free 0; have g1 := rwb.cell 1; have k1 := rwb.free 1; have g2 := rwb.cell 2; have k2 := rwb.free 2; have g3 := rwb.cell 3; have k3 := rwb.free 3; have g4 := rwb.cell 4; have k4 := rwb.free 4; have g5 := rwb.cell 5; have k5 := rwb.free 5; simp only [List.getElem?_toArray, List.getElem?_cons_zero, List.getElem?_cons_succ] at g0 g1 g2 g3 g4 g5; clear rwb)
          go_wp2
          refine bodyPost_ret (v := tokZ) (by simp [results, Tryz.results54, go_sem, tokZ, g0, g1, g2, g3, g4, g5]; rfl) rfl ?_
          rw [HWO.out, headP_drop l i HI.out]
          have HR4 := Lib.hid hrd4
          refine ⟨rfl, ⟨i + N, ?_⟩, ?_⟩
          · (repeat (with_reducible first | exact HR4.out | refine ReadAt.setOther ?_ ?_ _ | refine ReadAt.alloc ?_ _)) <;> (simp; omega)
          · (repeat (with_reducible first | exact HK2.out.trans hkp4 | refine Keep.setNew ?_ ?_ _ | refine Keep.alloc ?_ _)) <;> simp
        · have h24d : decide (24 < X.length) = false := decide_eq_false h24
          have hword : T.word (l.drop i) = .ok ⟨1, X, 0, T.headP (l.drop i)⟩ N := by
            simp only [T.word, HN.out, HX.out, HPK.out]
            rw [if_neg (fun h => HW.out (List.contains_iff_mem.1 h)), if_neg (fun h => HP.out (List.contains_iff_mem.1 h)), if_neg h24, (if_neg HK4.out)]
          have HWO := Lib.hid hword
          clear hword
          have hB := And.right ‹_ ∧ Below W0.heap.size W0 _›
          have hw2s := hB.size
          have tw := HTB.out.below hB HTB.out.lt
          have y0 := tw.cell 0
          have y1 := tw.cell 1
          have y2 := tw.cell 2
          have y3 := tw.cell 3
          have y4 := tw.cell 4
          have y5 := tw.cell 5
          simp only [List.getElem?_toArray, List.getElem?_cons_zero, List.getElem?_cons_succ] at y0 y1 y2 y3 y4 y5
          have q0 := tw.free 0
          have rwb := HRE.out.below hB HRE.out.lt
          have g0 := rwb.cell 0
          have k0 := rwb.free 0
          have g1 := rwb.cell 1
          have k1 := rwb.free 1
          have g2 := rwb.cell 2
          have k2 := rwb.free 2
          have g3 := rwb.cell 3
          have k3 := rwb.free 3
          have g4 := rwb.cell 4
          have k4 := rwb.free 4
          have g5 := rwb.cell 5
          have k5 := rwb.free 5
          simp only [List.getElem?_toArray, List.getElem?_cons_zero, List.getElem?_cons_succ] at g0 g1 g2 g3 g4 g5
          clear rwb
          have hR2 := HRW.out.keep hB
          have hK2 := HKW.out.below hB
          have HR2 := Lib.hid hR2
          have HK2 := Lib.hid hK2
          clear tw hR2 hK2
          go_wp2
          refine bodyPost_ret (v := tokN ⟨1, X, 0, U.zero⟩) (by simp [results, Tryz.results54, go_sem, tokN, g0, g1, g2, g3, g4, g5]) rfl ?_
          rw [HWO.out]
          refine ⟨rfl, ?_, ?_⟩
          · (repeat (with_reducible first | exact HR2.out | refine ReadAt.setOther ?_ ?_ _ | refine ReadAt.alloc ?_ _)) <;> (simp; omega)
          · (repeat (with_reducible first | exact HK2.out | refine Keep.setNew ?_ ?_ _ | refine Keep.alloc ?_ _)) <;> simp
end Go.Proofs.YtaojgcioljcpmaaGreatDoor
