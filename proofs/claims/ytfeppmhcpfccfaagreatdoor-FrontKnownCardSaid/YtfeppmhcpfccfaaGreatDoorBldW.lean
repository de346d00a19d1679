/- strings.Builder's check and its text at this program, walked (after the shelf's worked walks). -/
import Derived.Test.YtfeppmhcpfccfaaGreatDoorProg
import Derived.Lib.Builder
import Derived.Lib.UnsafeStr
import Derived.WalkKit
import Derived.Laws.Externs
import Derived.Laws.IdiomCopy
import Derived.Laws.BitsLemmas
set_option linter.unusedVariables false
set_option linter.unusedSimpArgs false
namespace Go.Proofs.YtfeppmhcpfccfaaGreatDoor
open Go Go.RowKit

set_option maxHeartbeats 1000000 in
set_option maxRecDepth 100000 in
theorem bld_check_used (b o : Nat) (w : World) (h0 : w.cell? ⟨b, o, none⟩ = some (.pointer (some ⟨b, o, none⟩))) :
    Calls Tryz.prog 144 #[.pointer (some ⟨b, o, none⟩)] w fun e w' => e = .returned (.tuple #[]) ∧ w' = w := by
  have hinfo : (Tryz.prog.info? 130).map (·.size) = some 2 := by kernel_rfl
  obtain ⟨j, hj, hjs⟩ := Option.map_eq_some_iff.1 hinfo
  have hup : Tryz.prog.underlying 127 = some (.pointer 130) := by kernel_rfl
  have huu : Tryz.prog.underlying 462 = some .unsafePointer := by kernel_rfl
  clear hjs huu
  go_enter Tryz.func144, Tryz.ntmps144
  go_wp2
  rw [Lib.run_neq_ptr_same w _ hup hj]
  go_wp2
  go_end0
  exact ⟨rfl, rfl⟩

set_option maxHeartbeats 1000000 in
set_option maxRecDepth 100000 in
theorem bld_check_fresh (b o m : Nat) (t : TypeId) (w : World) (h0 : w.cell? ⟨b, o, none⟩ = some (.pointer none)) (hsh : w.shape? b = some (t, m)) (hlt : o < m) (hlies : liesAt Tryz.prog Tryz.prog.depth t (m / Tryz.prog.cellsOf t) o 130 1 = true) (hfz : w.frozen? ⟨b, o, none⟩ = false) :
    Calls Tryz.prog 144 #[.pointer (some ⟨b, o, none⟩)] w fun e w' => e = .returned (.tuple #[]) ∧ w' = w.setCell ⟨b, o, none⟩ (.pointer (some ⟨b, o, none⟩)) := by
  have hinfo : (Tryz.prog.info? 130).map (·.size) = some 2 := by kernel_rfl
  obtain ⟨j, hj, hjs⟩ := Option.map_eq_some_iff.1 hinfo
  have hup : Tryz.prog.underlying 127 = some (.pointer 130) := by kernel_rfl
  have huu : Tryz.prog.underlying 462 = some .unsafePointer := by kernel_rfl
  go_enter Tryz.func144, Tryz.ntmps144
  go_wp2
  rw [Lib.run_to_unsafe w ⟨b, o, none⟩ hup huu hj (by rw [hjs]; decide) hsh hlt]
  simp only [Result.andThen]
  rw [Oper.upon_value]
  go_wp2
  rw [run_callFunc_extern Tryz.func253 (by kernel_rfl) (by kernel_rfl) (by kernel_rfl) (e := Extern.AbiNoEscape.same) (by kernel_rfl)]
  rw [Lib.run_noEscape]
  simp only [Result.andThen]
  rw [Oper.upon_value]
  go_wp2
  rw [Lib.run_from_unsafe w ⟨b, o, none⟩ huu hup hj hsh hlies]
  simp only [Result.andThen]
  rw [Oper.upon_value]
  go_wp2
  go_end0
  exact ⟨rfl, rfl⟩


set_option maxHeartbeats 2000000 in
set_option maxRecDepth 100000 in
theorem bld_textNil (b o : Nat) (w : World) (h : w.cell? ⟨b, o + 1, none⟩ = some (.slice none 0 0)) :
    Calls Tryz.prog 37 #[.pointer (some ⟨b, o, none⟩)] w fun e w' => e = .returned (.string ⟨#[]⟩) ∧ w' = w.drew := by
  have c1 : w.drew.cell? ⟨b, o + 1, none⟩ = some (.slice none 0 0) := h
  have hSD : (Builtin.unsafeSliceData_ #[128] 218 #[.slice none 0 0]).run Tryz.prog w.drew = .ok (.pointer none) w.drew := rfl
  have hUS : (Builtin.unsafeString_ #[218, 3] 9 #[.pointer none, .int .i64 0]).run Tryz.prog w.drew = .ok (.string .empty) w.drew := Lib.run_unsafeString_none w.drew _ _ _ none
  go_enter Tryz.func37, Tryz.ntmps37
  go_wp2
  go_region
  all_goals (go_wp2; go_ret; exact ⟨rfl, rfl⟩)

set_option maxHeartbeats 2000000 in
set_option maxRecDepth 100000 in
theorem bld_text (b o d cap : Nat) (w : World) (cur : Array Value) (l : List UInt8) (h : w.cell? ⟨b, o + 1, none⟩ = some (.slice (some ⟨d, 0, none⟩) l.length cap)) (hg : w.heap[d]? = some (.cells cur 5 (0, 0)))
    (h0 : l ≠ []) (hlc : l.length ≤ cap) (hl : l.length ≤ 1000000) (hc : ∀ (j : Nat) (x : UInt8), l[j]? = some x → cur[j]? = some (.int .u8 x.toNat)) :
    Calls Tryz.prog 37 #[.pointer (some ⟨b, o, none⟩)] w fun e w' => e = .returned (.string ⟨l.toArray⟩) ∧ w' = w.drew.freeze ⟨d, 0, none⟩ l.length := by
  have hl0 : l.length ≠ 0 := by simpa using h0
  have c1 : w.drew.cell? ⟨b, o + 1, none⟩ = some (.slice (some ⟨d, 0, none⟩) l.length cap) := h
  have hsz : l.length ≤ cur.size := by
    have hlt : l.length - 1 < l.length := by omega
    have := hc (l.length - 1) l[l.length - 1] (List.getElem?_eq_getElem hlt)
    have := (Array.getElem?_eq_some_iff.1 this).1
    omega
  have hSD : (Builtin.unsafeSliceData_ #[128] 218 #[.slice (some ⟨d, 0, none⟩) l.length cap]).run Tryz.prog w.drew = .ok (.pointer (some ⟨d, 0, none⟩)) w.drew :=
    Lib.run_unsafeSliceData_row _ _ _ _ _ _ (by omega)
  have hpt : Tryz.prog.underlying 218 = some (.pointer 5) := by kernel_rfl
  have hcb : Tryz.prog.cellsOf 5 = 1 := by kernel_rfl
  have hUS : (Builtin.unsafeString_ #[218, 3] 9 #[.pointer (some ⟨d, 0, none⟩), .int .i64 l.length]).run Tryz.prog w.drew = .ok (.string ⟨l.toArray⟩) (w.drew.freeze ⟨d, 0, none⟩ l.length) := by
    refine Lib.run_unsafeString_row w.drew _ _ _ 5 hpt hcb d cur.size (by have hg' : w.drew.heap[d]? = some (.cells cur 5 (0, 0)) := hg; simp [World.shape?, hg']) l h0 (by omega) (by omega) ?_
    intro j x hx
    have hg' : w.drew.heap[d]? = some (.cells cur 5 (0, 0)) := hg
    have he : Addr.add ⟨d, 0, none⟩ j = ⟨d, j, none⟩ := by
      cases j <;> simp [Addr.add]
    rw [he, Lib.cell_of_heap hg']
    exact hc j x hx
  go_enter Tryz.func37, Tryz.ntmps37
  go_wp2
  go_region
  all_goals (go_wp2; go_ret; exact ⟨rfl, rfl⟩)
end Go.Proofs.YtfeppmhcpfccfaaGreatDoor
