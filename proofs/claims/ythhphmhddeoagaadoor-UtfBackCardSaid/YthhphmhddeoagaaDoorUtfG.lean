/- The reference's Same (layer 9): two slices that read as the same code points. -/
import Derived.Test.YthhphmhddeoagaaDoorUtfF
namespace Go.Proofs.YthhphmhddeoagaaDoor
open Go.RowKit

theorem ptsCells_length (l : List U.Pt) : (ptsCells l).length = l.length * 4 := by
  induction l with
  | nil => rfl
  | cons x l ih => simp only [ptsCells, List.flatMap_cons, List.length_append] at ih ⊢; rw [ih]; simp [ptCells]; omega

theorem ptsCells_at (l : List U.Pt) (i : Nat) (h : i < l.length) :
    (ptsCells l)[4 * i]? = some (.int .i32 (l[i]'h).r) ∧ (ptsCells l)[4 * i + 1]? = some (.int .i64 (l[i]'h).p.a) ∧ (ptsCells l)[4 * i + 2]? = some (.int .i64 (l[i]'h).p.l) ∧ (ptsCells l)[4 * i + 3]? = some (.int .i64 (l[i]'h).p.c) := by
  induction l generalizing i with
  | nil => simp at h
  | cons x l ih =>
    have e : ptsCells (x :: l) = ptCells x ++ ptsCells l := by simp [ptsCells]
    cases i with
    | zero => rw [e]; simp [ptCells]
    | succ i =>
      have hi : i < l.length := by simpa using h
      obtain ⟨h1, h2, h3, h4⟩ := ih i hi
      have hl : (ptCells x).length = 4 := rfl
      rw [e]
      refine ⟨?_, ?_, ?_, ?_⟩
      · rw [List.getElem?_append_right (by omega), hl, show 4 * (i + 1) - 4 = 4 * i by omega, h1]; rfl
      · rw [List.getElem?_append_right (by omega), hl, show 4 * (i + 1) + 1 - 4 = 4 * i + 1 by omega, h2]; rfl
      · rw [List.getElem?_append_right (by omega), hl, show 4 * (i + 1) + 2 - 4 = 4 * i + 2 by omega, h3]; rfl
      · rw [List.getElem?_append_right (by omega), hl, show 4 * (i + 1) + 3 - 4 = 4 * i + 3 by omega, h4]; rfl

theorem same_nil (a1 a2 : Option Addr) (c1 c2 : Nat) (w : World) :
    Calls Tryd.prog 12 #[.slice a1 0 c1, .slice a2 0 c2] w fun e w' => e = .returned (.bool true) ∧ Below w.heap.size w w' := by
  go_enter Tryd.func12, Tryd.ntmps12
  go_wp2
  refine wp_loop_rounds 1 ?_
  rw [rounds_succ]
  go_wp2
  go_ret
  exact ⟨rfl, Below.refl _ _⟩

set_option maxHeartbeats 1000000 in
theorem same_some (l : List U.Pt) (b1 o1 c1 b2 o2 c2 : Nat) (w : World) (hl : l.length ≤ 20000)
    (h1 : ∀ j u, (ptsCells l)[j]? = some u → w.cell? ⟨b1, o1 + j, none⟩ = some u) (h2 : ∀ j u, (ptsCells l)[j]? = some u → w.cell? ⟨b2, o2 + j, none⟩ = some u) :
    Calls Tryd.prog 12 #[.slice (some ⟨b1, o1, none⟩) l.length c1, .slice (some ⟨b2, o2, none⟩) l.length c2] w fun e w' => e = .returned (.bool true) ∧ Below w.heap.size w w' := by
  have H1 := Lib.hid h1
  have H2 := Lib.hid h2
  clear h1 h2
  obtain ⟨n, hn⟩ : ∃ n, l.length = n := ⟨_, rfl⟩
  rw [hn] at hl ⊢
  have HN := Lib.hid hn
  clear hn
  go_enter Tryd.func12, Tryd.ntmps12
  go_wp2
  go_loopw [5] (fun u wr => ∃ i : Nat, u = .int .i64 i ∧ i ≤ n ∧ ∃ q, wr = w.drewN q) (fun u _ => n - (intOf u).toNat)
  case atStart => exact ⟨0, rfl, Nat.zero_le _, 0, rfl⟩
  case round =>
    obtain ⟨i, rfl, hi, q, rfl⟩ := hrel
    by_cases hlt : i < n
    · have hlt' : (i : Int) < (n : Int) := by omega
      have hil : i < l.length := by rw [HN.out]; exact hlt
      obtain ⟨y0, y1, y2, y3⟩ := ptsCells_at l i hil
      obtain ⟨x, hx⟩ : ∃ x, l[i]'hil = x := ⟨_, rfl⟩
      rw [hx] at y0 y1 y2 y3
      have a0 : w.cell? ⟨b1, o1 + i * 4, none⟩ = some (.int .i32 x.r) := by have := H1.out _ _ y0; rw [Nat.mul_comm] at this; exact this
      have a1 : w.cell? ⟨b1, o1 + i * 4 + 1, none⟩ = some (.int .i64 x.p.a) := by have := H1.out _ _ y1; rw [Nat.mul_comm] at this; exact this
      have a2 : w.cell? ⟨b1, o1 + i * 4 + 2, none⟩ = some (.int .i64 x.p.l) := by have := H1.out _ _ y2; rw [Nat.mul_comm] at this; exact this
      have a3 : w.cell? ⟨b1, o1 + i * 4 + 3, none⟩ = some (.int .i64 x.p.c) := by have := H1.out _ _ y3; rw [Nat.mul_comm] at this; exact this
      have d0 : w.cell? ⟨b2, o2 + i * 4, none⟩ = some (.int .i32 x.r) := by have := H2.out _ _ y0; rw [Nat.mul_comm] at this; exact this
      have d1 : w.cell? ⟨b2, o2 + i * 4 + 1, none⟩ = some (.int .i64 x.p.a) := by have := H2.out _ _ y1; rw [Nat.mul_comm] at this; exact this
      have d2 : w.cell? ⟨b2, o2 + i * 4 + 2, none⟩ = some (.int .i64 x.p.l) := by have := H2.out _ _ y2; rw [Nat.mul_comm] at this; exact this
      have d3 : w.cell? ⟨b2, o2 + i * 4 + 3, none⟩ = some (.int .i64 x.p.c) := by have := H2.out _ _ y3; rw [Nat.mul_comm] at this; exact this
      have hi0 : (0 : Int) ≤ (i : Int) := by omega
      clear y0 y1 y2 y3 hx
      go_wp2
      go_quiet (fail)
      go_wp2
      go_roundw
      case rel => exact ⟨i + 1, by go_num, by omega, _, rfl⟩
      case measure => simp [intOf]; omega
    · go_wp2
      go_ret
      exact ⟨rfl, below_drewN (Below.refl _ _) _⟩

theorem same_any (l : List U.Pt) (va vb : Value) (B : Nat) (w : World) (hl : l.length ≤ 20000) (ha : Row w B 4 va l.length (ptsCells l)) (hb : Row w B 4 vb l.length (ptsCells l)) :
    Calls Tryd.prog 12 #[va, vb] w fun e w' => e = .returned (.bool true) ∧ Below w.heap.size w w' := by
  obtain ⟨_, _, ha⟩ := ha
  obtain ⟨_, _, hb⟩ := hb
  rcases ha with ⟨h0, a1, c1, rfl⟩ | ⟨b1, o1, c1, rfl, _, _, h1⟩
  · rcases hb with ⟨_, a2, c2, rfl⟩ | ⟨b2, o2, c2, rfl, _, _, h2⟩
    · exact same_nil _ _ _ _ w
    · rw [h0]; exact same_nil _ _ _ _ w
  · rcases hb with ⟨h0, a2, c2, rfl⟩ | ⟨b2, o2, c2, rfl, _, _, h2⟩
    · rw [h0]; exact same_nil _ _ _ _ w
    · exact same_some l b1 o1 c1 b2 o2 c2 w hl h1 h2
end Go.Proofs.YthhphmhddeoagaaDoor
