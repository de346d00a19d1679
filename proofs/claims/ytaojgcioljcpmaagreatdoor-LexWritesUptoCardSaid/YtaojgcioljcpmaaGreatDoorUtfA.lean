/- Contracts of the small functions of utf and of its reference, over the seat's program. -/
import Derived.Test.YtaojgcioljcpmaaGreatDoorRows
import Derived.Test.YtaojgcioljcpmaaGreatDoorUtfPlain
import Derived.Test.YtaojgcioljcpmaaGreatDoorShelf
import Derived.Test.YtaojgcioljcpmaaGreatDoorKit
import Derived.WalkKit
import Derived.WalkSmall
import Derived.WalkSpells
import Derived.WalkLawsBesides
import Derived.Lib.Hide
import Derived.IntWalk
import Derived.OneCell
import Derived.Deep.DeepFit
namespace Go.Proofs.YtaojgcioljcpmaaGreatDoor
open Go.RowKit

set_option maxHeartbeats 400000 in
theorem start_any (w : World) :
    Calls Tryz.prog 73 #[] w fun e w' => e = .returned (.agg #[.int .i64 0, .int .i64 1, .int .i64 1]) ∧ Below w.heap.size w w' := by
  go_enter Tryz.func73, Tryz.ntmps73
  go_wp2
  exact bodyPost_ret (v := .agg #[.int .i64 0, .int .i64 1, .int .i64 1]) (by simp [results, Tryz.results73, go_sem]) rfl ⟨rfl, by repeat (first | exact Below.refl _ _ | refine Below.alloc ?_ (by simp) _)⟩

set_option maxHeartbeats 400000 in
theorem next_any (a l c r z : Int) (w : World) (h0 : 0 ≤ a ∧ a ≤ 10000 ∧ 0 ≤ l ∧ l ≤ 10000 ∧ 0 ≤ c ∧ c ≤ 10000 ∧ 0 ≤ z ∧ z ≤ 10000) :
    Calls Tryz.prog 76 #[.agg #[.int .i64 a, .int .i64 l, .int .i64 c], .int .i32 r, .int .i64 z] w fun e w' =>
      e = .returned (.agg #[.int .i64 (U.next ⟨a, l, c⟩ r z).a, .int .i64 (U.next ⟨a, l, c⟩ r z).l, .int .i64 (U.next ⟨a, l, c⟩ r z).c]) ∧ Below w.heap.size w w' := by
  obtain ⟨h1, h2, h3, h4, h5, h6, h7, h8⟩ := h0
  by_cases hr : r = 10
  · have e : U.next ⟨a, l, c⟩ r z = ⟨a + z, l + 1, 1⟩ := by simp [U.next, hr]
    rw [e]
    subst hr
    clear e
    go_enter Tryz.func76, Tryz.ntmps76
    go_wp2
    exact bodyPost_ret (v := .agg #[.int .i64 (a + z), .int .i64 (l + 1), .int .i64 1]) (by simp [results, Tryz.results76, go_sem]) rfl ⟨rfl, by repeat (first | exact Below.refl _ _ | refine Below.alloc ?_ (by simp) _)⟩
  · have e : U.next ⟨a, l, c⟩ r z = ⟨a + z, l, c + 1⟩ := by simp [U.next, hr]
    rw [e]
    have hr' : (r == 10) = false := by simpa using hr
    clear hr e
    go_enter Tryz.func76, Tryz.ntmps76
    go_wp2
    exact bodyPost_ret (v := .agg #[.int .i64 (a + z), .int .i64 l, .int .i64 (c + 1)]) (by simp [results, Tryz.results76, go_sem]) rfl ⟨rfl, by repeat (first | exact Below.refl _ _ | refine Below.alloc ?_ (by simp) _)⟩

theorem info42 : (Tryz.prog.info? 86).map (fun i => (i.zero, i.size, i.bytes)) = some (some (.agg #[.int .i32 0, .int .i64 0, .int .i64 0, .int .i64 0]), 4, 32) := by kernel_rfl

def ptCells (x : U.Pt) : List Value := [.int .i32 x.r, .int .i64 x.p.a, .int .i64 x.p.l, .int .i64 x.p.c]
def ptsCells (l : List U.Pt) : List Value := l.flatMap ptCells

theorem ptsCells_snoc (l : List U.Pt) (x : U.Pt) : ptsCells (l ++ [x]) = ptsCells l ++ ptCells x := by simp [ptsCells]

set_option maxHeartbeats 400000 in
/-- the closure of Points: it appends to the captured slice. -/
theorem points1 (Bo B : Nat) (v : Value) (l : List U.Pt) (r a li c : Int) (w : World) (hv : w.heap[Bo]? = some (.cells #[v] 60 (0, 0)))
    (hown : w.ownsRow B 86 4 v l.length (ptsCells l)) (hl : l.length ≤ 20000) (hB : Bo < B) (hBw : B ≤ w.heap.size) :
    Calls Tryz.prog 49 #[.int .i32 r, .agg #[.int .i64 a, .int .i64 li, .int .i64 c], .pointer (some ⟨Bo, 0, none⟩)] w fun e w' =>
      e = .returned (.tuple #[]) ∧ ∃ v', w'.heap[Bo]? = some (.cells #[v'] 60 (0, 0)) ∧ w'.ownsRow B 86 4 v' (l.length + 1) (ptsCells (l ++ [(⟨r, ⟨a, li, c⟩⟩ : U.Pt)]))
        ∧ Below Bo w w' ∧ (∀ k, k < w.heap.size → k ≠ Bo → some k ≠ v.ownBlock → w'.heap[k]? = w.heap[k]?) ∧ w.heap.size ≤ w'.heap.size := by
  obtain ⟨i0, hi, hz0, hz1, hz2⟩ := info_parts info42
  have hc := cell_of_one hv
  have hf := free_of_one hv
  have hlt : Bo < w.heap.size := by omega
  go_enter Tryz.func49, Tryz.ntmps49
  go_wp2_with (at_builtin; refine wpList_append_own _ rfl _ _ 60 rfl B 86 i0 (.agg #[.int .i32 0, .int .i64 0, .int .i64 0, .int .i64 0]) 4 32 Tryz.underlying60 hi hz0 hz1 hz2 rfl (by decide) _ _ _ rfl ((hown.alloc _).alloc _) ⟨w.heap.size + 1, 0, none⟩ 1 1 (ptCells ⟨r, ⟨a, li, c⟩⟩) rfl rfl ?c1 ?c2 ?c3 ?c4 ?c5 ?_)
  case c1 => exact cells_new _ _ (ptCells ⟨r, ⟨a, li, c⟩⟩) _ (by simp)
  case c2 => intro u hu; simp [ptCells] at hu; rcases hu with rfl | rfl | rfl | rfl <;> rfl
  case c3 => unfold maxLen; omega
  case c4 => omega
  case c5 => simp; omega
  intro v' w2 hown' hgrow _
  have hne : some Bo ≠ v.ownBlock := fun e => by have := (hown.lt Bo e.symm).1; omega
  have hBo : w2.heap[Bo]? = some (.cells #[v] 60 (0, 0)) := by
    rw [hgrow.block Bo (by simp; omega) hne, Below.heap_alloc _ _ _ (by simp; omega), Below.heap_alloc _ _ _ (by omega)]; exact hv
  have hc2 := cell_of_one hBo
  have hf2 := free_of_one hBo
  have hs := hgrow.size
  simp only [World.size_alloc] at hs
  obtain ⟨oa, cp, hv'⟩ := own_slice hown'
  subst hv'
  go_wp2
  go_end0
  refine ⟨rfl, _, one_setCell hBo, ?_, ?_, ?_, ?_⟩
  · rw [ptsCells_snoc]
    exact ownsRow_setCell_below hown' hB _
  · exact (Below.grown (B := Bo) (((Below.refl Bo w).alloc (by omega) _).alloc (by simp; omega) _) hgrow (by simp; omega) (fun k hk => by have := (hown.lt k hk).1; omega)).setCell (p := ⟨Bo, 0, none⟩) (Nat.le_refl _) _
  · intro k hk hkB hkv
    rw [Below.heap_setCell _ _ _ _ hkB, hgrow.block k (by simp; omega) hkv, Below.heap_alloc _ _ _ (by simp; omega), Below.heap_alloc _ _ _ (by omega)]
  · simp [World.setCell]; omega

end Go.Proofs.YtaojgcioljcpmaaGreatDoor
