/- Contracts: types. -/
import Derived.Test.YtpndkjjkdeingaaGreatDoorApi
import Derived.Test.YtpndkjjkdeingaaGreatDoorChecked
import Derived.Deep.QuietTactic
import Derived.BigQuiet
import Derived.Deep.RegionWith
import Derived.ChangeAlike
import Derived.Deep.Light
set_option linter.unusedVariables false
set_option linter.unusedSimpArgs false
namespace Go.Proofs.YtpndkjjkdeingaaGreatDoor
open Go.RowKit

def kidsZ (k : Int) : Int := if k = 6 then 1 else if k = 7 then 2 else if k = 8 then -1 else 0

set_option maxHeartbeats 400000 in
theorem kids_any (k : Int) (w : World) :
    Calls Tryz.prog 83 #[.int .u8 k] w fun e w' => e = .returned (.int .i64 (kidsZ k)) ∧ w = w' := by
  go_enter Tryz.func83, Tryz.ntmps83
  go_wp2
  all_goals (go_ret; exact ⟨by simp_all [kidsZ], rfl⟩)

def oneB (c : Int) : Bool := decide (1 ≤ c ∧ c ≤ 3)
theorem ret_i {a b : Int} (h : a = b) : Ending.returned (.int .i64 a) = .returned (.int .i64 b) := by rw [h]
theorem ret_b {a b : Bool} (h : a = b) : Ending.returned (.bool a) = .returned (.bool b) := by rw [h]
set_option maxHeartbeats 400000 in
theorem one_any (c : Int) (w : World) :
    Calls Tryz.prog 186 #[.int .u8 c] w fun e w' => e = .returned (.bool (oneB c)) ∧ w = w' := by
  go_enter Tryz.func186, Tryz.ntmps186
  go_wp2
  all_goals (go_ret; refine ⟨ret_b ?_, rfl⟩; go_light; simp [oneB]; omega)

def isMu (v c : Int) : Int := if (c = 0 ∧ 0 ≤ v ∧ v < 1048576) ∨ (1 ≤ c ∧ c ≤ 3 ∧ v = 0) then 0 else 2
set_option maxHeartbeats 400000 in
theorem is_any (v c : Int) (w : World) :
    Calls Tryz.prog 84 #[.agg #[.int .i64 v, .int .u8 c]] w fun e w' => e = .returned (.int .i64 (isMu v c)) ∧ Below w.heap.size w w' := by
  go_enter Tryz.func84, Tryz.ntmps84
  go_wp2_with (go_at_call 186; refine (one_any _ _).mono ?_; rintro e w2 ⟨rfl, rfl⟩)
  all_goals
    go_ret
    refine ⟨ret_i ?_, (Below.refl _ _).alloc (Nat.le_refl _) _⟩
    go_light
    try simp [oneB] at *
    unfold isMu
    split <;> omega


def isT (k n v c : Int) (len : Nat) : Bool := decide (1 ≤ k ∧ k ≤ 8 ∧ 0 ≤ n ∧ (k = 1 → n < 1048576) ∧ (k = 8 → n < 40) ∧ (k ≠ 1 → k ≠ 8 → n = 0) ∧ (0 ≤ kidsZ k → (len : Int) = kidsZ k) ∧ len ≤ 4 ∧ ((v = 0 ∧ c = 0) ∨ (k = 7 ∧ isMu v c = 0)))

set_option maxHeartbeats 4000000 in
theorem tyis_any (k n v c : Int) (a : Option Addr) (len cap : Nat) (hl : len ≤ 1048576) (w : World) :
    Calls Tryz.prog 41 #[.agg #[.int .u8 k, .int .i64 n, .int .i64 v, .int .u8 c, .slice a len cap]] w fun e w' => e = .returned (.bool (isT k n v c len)) ∧ Below w.heap.size w w' := by
  go_enter Tryz.func41, Tryz.ntmps41
  go_wp2_with (first
    | (go_at_call 83; refine (kids_any _ _).mono ?_; rintro e w2 ⟨rfl, rfl⟩)
    | (go_at_call 84; refine (is_any _ _ _).mono ?_; rintro e w2 ⟨rfl, hb2⟩))
  all_goals
    go_ret
    refine ⟨ret_b ?_, ?_⟩
    · go_light
      try subst_vars
      have k7 : kidsZ 7 = 2 := rfl
      rw [Bool.eq_iff_iff]
      simp [isT] at *
      try omega
    · first
        | exact (Below.refl _ _).alloc (Nat.le_refl _) _
        | exact ((Below.refl _ _).alloc (Nat.le_refl _) _).trans (hb2.mono (by simp))
end Go.Proofs.YtpndkjjkdeingaaGreatDoor
