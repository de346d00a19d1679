/- Contracts: core.Takes, and the document's answer. Written by gen_cut.py. -/
import Derived.Test.YtpndkjjkdeingaaGreatDoorTyC
import Derived.Test.YtpndkjjkdeingaaGreatDoorIdx
import Derived.Deep.Cut
import Derived.Deep.Light
set_option linter.unusedVariables false
set_option linter.unusedSimpArgs false
namespace Go.Proofs.YtpndkjjkdeingaaGreatDoor
open Go.RowKit

def takesZ (n : Int) : Int := if n < 1 ∨ 18 < n then 0 else if n = 7 then 3 else if n = 2 ∨ n = 4 ∨ (8 ≤ n ∧ n ≤ 10) then 1 else 2
set_option maxHeartbeats 1000000 in
theorem takes_any (n : Int) (w : World) : Calls Tryz.prog 21 #[.int .i64 n] w fun e w' => e = .returned (.int .i64 (takesZ n)) ∧ w = w' := by
  go_enter Tryz.func21, Tryz.ntmps21
  go_wp2
  all_goals
    go_ret
    refine ⟨ret_i ?_, rfl⟩
    go_light
    try simp at *
    unfold takesZ
    repeat' split
    all_goals omega
def takesA : Array Value := #[.int .i64 0, .int .i64 2, .int .i64 1, .int .i64 2, .int .i64 1, .int .i64 2, .int .i64 2, .int .i64 3, .int .i64 1, .int .i64 1, .int .i64 1, .int .i64 2, .int .i64 2, .int .i64 2, .int .i64 2, .int .i64 2, .int .i64 2, .int .i64 2, .int .i64 2]
theorem takesZeros : (Tryz.prog.info? 87).map (·.size) = some 19 := by kernel_rfl
theorem Below.setRow {B : Nat} {w v : World} {g : Nat} {cs : Array Value} (h : Below B w v) (hg : B ≤ g) : Below B w (v.setRow g cs) :=
  ⟨h.os, h.tape, h.output, by rw [setRow_size]; exact h.size, fun k hk => (setRow_other v g k cs (by omega)).trans (h.block k hk)⟩
theorem takesA_at (m : Nat) (h1 : 1 ≤ m) (h2 : m ≤ 18) : takesA[m]? = some (.int .i64 (takesZ m)) := by
  have : m = 1 ∨ m = 2 ∨ m = 3 ∨ m = 4 ∨ m = 5 ∨ m = 6 ∨ m = 7 ∨ m = 8 ∨ m = 9 ∨ m = 10 ∨ m = 11 ∨ m = 12 ∨ m = 13 ∨ m = 14 ∨ m = 15 ∨ m = 16 ∨ m = 17 ∨ m = 18 := by omega
  rcases this with rfl | rfl | rfl | rfl | rfl | rfl | rfl | rfl | rfl | rfl | rfl | rfl | rfl | rfl | rfl | rfl | rfl | rfl <;> rfl
set_option maxRecDepth 100000 in
set_option maxHeartbeats 1000000 in
theorem rtakes_any (n : Int) (w : World) :
    Calls Tryz.prog 10 #[.int .i64 n] w fun e w' => e = .returned (.int .i64 (takesZ n)) ∧ Below w.heap.size w w' := by
  by_cases h1 : n < 1
  · have e1 : decide (n < 1) = true := decide_eq_true h1
    go_enter Tryz.func10, Tryz.ntmps10
    go_upto_region 1 with fail
    refine wp_region_list ?_
    refine wpList_build rfl 87 _ rfl (by kernel_rfl) ?_
    rw [show ((Tryz.prog.built 87 _).getD #[]) = takesA by kernel_rfl]
    go_wp2_with (refine wpList_store_row rfl 87 _ _ rfl w.heap.size takesA rfl rfl 87 _ (heap_alloc_new w _) takesZeros rfl (by kernel_rfl) ?_)
    go_ret
    exact ⟨ret_i (by simp [takesZ, h1]), Below.setRow (by (repeat (with_reducible first | exact Below.refl _ _ | refine Below.setCell ?_ ?_ _ | refine Below.alloc ?_ ?_ _ | refine Below.drewN ?_ _ | refine Below.drew ?_)) <;> first | omega | (simp; omega) | (simp; done)) (Nat.le_refl _)⟩
  by_cases h2 : 18 < n
  · have e1 : decide (n < 1) = false := decide_eq_false h1
    have e2 : decide (18 < n) = true := decide_eq_true h2
    go_enter Tryz.func10, Tryz.ntmps10
    go_upto_region 1 with fail
    refine wp_region_list ?_
    refine wpList_build rfl 87 _ rfl (by kernel_rfl) ?_
    rw [show ((Tryz.prog.built 87 _).getD #[]) = takesA by kernel_rfl]
    go_wp2_with (refine wpList_store_row rfl 87 _ _ rfl w.heap.size takesA rfl rfl 87 _ (heap_alloc_new w _) takesZeros rfl (by kernel_rfl) ?_)
    go_ret
    exact ⟨ret_i (by simp [takesZ, h2]), Below.setRow (by (repeat (with_reducible first | exact Below.refl _ _ | refine Below.setCell ?_ ?_ _ | refine Below.alloc ?_ ?_ _ | refine Below.drewN ?_ _ | refine Below.drew ?_)) <;> first | omega | (simp; omega) | (simp; done)) (Nat.le_refl _)⟩
  obtain ⟨m, rfl⟩ := Int.eq_ofNat_of_zero_le (show 0 ≤ n by omega)
  have e1 : decide ((m : Int) < 1) = false := decide_eq_false h1
  have e2 : decide ((18 : Int) < (m : Int)) = false := decide_eq_false h2
  have hm : m < 19 := by omega
  have hcell : ((w.alloc (.cells #[.int .i64 0, .int .i64 0, .int .i64 0, .int .i64 0, .int .i64 0, .int .i64 0, .int .i64 0, .int .i64 0, .int .i64 0, .int .i64 0, .int .i64 0, .int .i64 0, .int .i64 0, .int .i64 0, .int .i64 0, .int .i64 0, .int .i64 0, .int .i64 0, .int .i64 0] 87)).setRow w.heap.size takesA).cell? ⟨w.heap.size, m, none⟩ = some (.int .i64 (takesZ m)) :=
    (cell_setRow_same _ _ m _ takesA _ _ (heap_alloc_new w _)).trans (takesA_at m (by omega) (by omega))
  obtain ⟨T, hT⟩ : ∃ T, takesZ m = T := ⟨_, rfl⟩
  rw [hT] at hcell ⊢
  clear hT
  go_enter Tryz.func10, Tryz.ntmps10
  go_upto_region 1 with fail
  refine wp_region_list ?_
  refine wpList_build rfl 87 _ rfl (by kernel_rfl) ?_
  rw [show ((Tryz.prog.built 87 _).getD #[]) = takesA by kernel_rfl]
  go_wp2_with (refine wpList_store_row rfl 87 _ _ rfl w.heap.size takesA rfl rfl 87 _ (heap_alloc_new w _) takesZeros rfl (by kernel_rfl) ?_)
  go_ret
  exact ⟨rfl, Below.setRow (by (repeat (with_reducible first | exact Below.refl _ _ | refine Below.setCell ?_ ?_ _ | refine Below.alloc ?_ ?_ _ | refine Below.drewN ?_ _ | refine Below.drew ?_)) <;> first | omega | (simp; omega) | (simp; done)) (Nat.le_refl _)⟩

end Go.Proofs.YtpndkjjkdeingaaGreatDoor
