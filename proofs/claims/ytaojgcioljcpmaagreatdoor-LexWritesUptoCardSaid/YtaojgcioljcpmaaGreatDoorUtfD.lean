/- Contracts of the reference's small functions (layer 9). -/
import Derived.Test.YtaojgcioljcpmaaGreatDoorUtfC
import Derived.Deep.QuietTactic
import Derived.BigQuiet
import Derived.RegionTactic
import Derived.Deep.RegionWith
import Derived.ChangeAlike
import Derived.StillTailTactics
namespace Go.Proofs.YtaojgcioljcpmaaGreatDoor
open Go.RowKit

set_option maxHeartbeats 400000 in
theorem utfMay_any (n : Int) (w : World) :
    Calls Tryz.prog 95 #[.int .i64 n] w fun e w' => e = .returned (.bool (Lib.validRune n)) ∧ w = w' := by
  by_cases h0 : 0 ≤ n
  · by_cases h1 : n ≤ 1114111
    · by_cases h2 : 55296 ≤ n
      · by_cases h3 : n ≤ 57343
        · have e : Lib.validRune n = false := by simp [Lib.validRune]; omega
          rw [e]; clear e
          go_enter Tryz.func95, Tryz.ntmps95
          go_wp2
          go_ret
          exact ⟨rfl, rfl⟩
        · have e : Lib.validRune n = true := by simp [Lib.validRune]; omega
          rw [e]; clear e
          go_enter Tryz.func95, Tryz.ntmps95
          go_wp2
          go_ret
          exact ⟨rfl, rfl⟩
      · have e : Lib.validRune n = true := by simp [Lib.validRune]; omega
        rw [e]; clear e
        go_enter Tryz.func95, Tryz.ntmps95
        go_wp2
        go_ret
        exact ⟨rfl, rfl⟩
    · have e : Lib.validRune n = false := by simp [Lib.validRune]; omega
      rw [e]; clear e
      go_enter Tryz.func95, Tryz.ntmps95
      go_wp2
      go_ret
      exact ⟨rfl, rfl⟩
  · have e : Lib.validRune n = false := by simp [Lib.validRune]; omega
    rw [e]; clear e
    go_enter Tryz.func95, Tryz.ntmps95
    go_wp2
    go_ret
    exact ⟨rfl, rfl⟩

def widthZ (n : Int) : Int := if n < 128 then 1 else if n < 2048 then 2 else if n < 65536 then 3 else 4

set_option maxHeartbeats 400000 in
theorem width_any (n : Int) (w : World) :
    Calls Tryz.prog 72 #[.int .i64 n] w fun e w' => e = .returned (.int .i64 (widthZ n)) ∧ w = w' := by
  unfold widthZ
  by_cases h0 : n < 128
  · rw [if_pos h0]
    go_enter Tryz.func72, Tryz.ntmps72
    go_wp2
    go_ret
    exact ⟨rfl, rfl⟩
  rw [if_neg h0]
  by_cases h1 : n < 2048
  · rw [if_pos h1]
    go_enter Tryz.func72, Tryz.ntmps72
    go_wp2
    go_ret
    exact ⟨rfl, rfl⟩
  rw [if_neg h1]
  by_cases h2 : n < 65536
  · rw [if_pos h2]
    go_enter Tryz.func72, Tryz.ntmps72
    go_wp2
    go_ret
    exact ⟨rfl, rfl⟩
  rw [if_neg h2]
  go_enter Tryz.func72, Tryz.ntmps72
  go_wp2
  go_ret
  exact ⟨rfl, rfl⟩

theorem widthZ_le (n : Int) : 1 ≤ widthZ n ∧ widthZ n ≤ 4 := by
  unfold widthZ
  repeat' split
  all_goals omega

theorem u8_wrap (n : Int) (h : 0 ≤ n ∧ n < 256) : IntKind.u8.wrap n = n := by
  simp [IntKind.wrap, IntKind.bits, IntKind.signed]; omega

theorem str_enc (n : Int) (xs : List Int) (h : Lib.encodeRuneZ n = xs) : strOfNums xs = ⟨(Lib.encodeRune n).toArray⟩ := by
  rw [Lib.encodeRune, h]; rfl

set_option maxHeartbeats 400000 in
theorem bytes_one (n : Int) (w : World) (h0 : 0 ≤ n) (h1 : n < 128) :
    Calls Tryz.prog 96 #[.int .i64 n] w fun e w' => e = .returned (.string ⟨(Lib.encodeRune n).toArray⟩) ∧ Below w.heap.size w w' := by
  rw [← str_enc n [n] (Lib.encodeRuneZ_one h0 (by omega))]
  have cw : ∀ W : World, Calls Tryz.prog 72 #[.int .i64 n] W fun e w' => e = .returned (.int .i64 1) ∧ W = w' := fun W => by have := width_any n W; rwa [widthZ, if_pos h1] at this
  have hcv := run_convert_bytes_arg (P := Tryz.prog) (w.alloc (.cells #[.int .u8 n] 5)) 38 5 Tryz.underlying38 Tryz.underlying5 w.heap.size 0 1 1 [n] rfl
    (fun i hi => by obtain rfl : i = 0 := by omega
                    exact (Blk.new w _ _ _ rfl).cell 0) 9 Tryz.underlying9
  go_enter Tryz.func96, Tryz.ntmps96
  go_wp2_with (go_at_call 72; refine (cw _).mono ?_; rintro e w2 ⟨rfl, rfl⟩)
  go_ret
  exact ⟨rfl, (Below.refl _ _).alloc (Nat.le_refl _) _⟩

set_option maxHeartbeats 1000000 in
theorem bytes_two (n : Int) (w : World) (h0 : 128 ≤ n) (h1 : n < 2048) :
    Calls Tryz.prog 96 #[.int .i64 n] w fun e w' => e = .returned (.string ⟨(Lib.encodeRune n).toArray⟩) ∧ Below w.heap.size w w' := by
  rw [← str_enc n [192 + n / 64, 128 + n % 64] (by rw [Lib.encodeRuneZ_two h0 (by omega)])]
  have cw : ∀ W : World, Calls Tryz.prog 72 #[.int .i64 n] W fun e w' => e = .returned (.int .i64 2) ∧ W = w' := fun W => by have := width_any n W; rwa [widthZ, if_neg (by omega), if_pos (by omega)] at this
  have hmk : ∀ w, (Instr.makeSlice 38 (.int .i64 2) (.int .i64 2)).run Tryz.prog w = .ok (.slice (some ⟨w.heap.size, 0, none⟩) 2 2) (w.alloc (.cells #[.int .u8 0, .int .u8 0] 5)) := fun _ => by kernel_rfl
  have hcv := fun o : Obj => run_convert_bytes_arg (P := Tryz.prog) ((w.alloc (.cells #[.int .u8 (192 + n / 64), .int .u8 (128 + n % 64)] 5)).alloc o) 38 5 Tryz.underlying38 Tryz.underlying5 w.heap.size 0 2 2 [192 + n / 64, 128 + n % 64] rfl
    (fun i hi => by match i, hi with
                    | 0, _ => exact ((Blk.new w _ _ _ rfl).alloc _).cell 0
                    | 1, _ => exact ((Blk.new w _ _ _ rfl).alloc _).cell 1
                    | i + 2, hi => omega) 9 Tryz.underlying9
  have b0 : 0 ≤ n / 64 := by omega
  have b1 : n / 64 < 32 := by omega
  have b2 : 0 ≤ n % 64 := by omega
  have b3 : n % 64 < 64 := by omega
  go_enter Tryz.func96, Tryz.ntmps96
  go_wp2_with (go_at_call 72; refine (cw _).mono ?_; rintro e w2 ⟨rfl, rfl⟩)
  refine wp_loop_rounds 2 ?_
  rw [rounds_succ]
  go_wp2
  rw [rounds_succ]
  go_wp2
  go_ret
  exact ⟨rfl, ((Below.refl _ _).alloc (Nat.le_refl _) _).alloc (by simp) _⟩

set_option maxHeartbeats 1000000 in
theorem bytes_three (n : Int) (w : World) (h0 : 2048 ≤ n) (h1 : n < 65536) (h2 : n < 55296 ∨ 57343 < n) :
    Calls Tryz.prog 96 #[.int .i64 n] w fun e w' => e = .returned (.string ⟨(Lib.encodeRune n).toArray⟩) ∧ Below w.heap.size w w' := by
  rw [← str_enc n [224 + n / 64 / 64, 128 + n / 64 % 64, 128 + n % 64] (by rw [Lib.encodeRuneZ_three (by omega)]; simp <;> omega)]
  have cw : ∀ W : World, Calls Tryz.prog 72 #[.int .i64 n] W fun e w' => e = .returned (.int .i64 3) ∧ W = w' := fun W => by have := width_any n W; rwa [widthZ, if_neg (by omega), if_neg (by omega), if_pos (by omega)] at this
  have hmk : ∀ w, (Instr.makeSlice 38 (.int .i64 3) (.int .i64 3)).run Tryz.prog w = .ok (.slice (some ⟨w.heap.size, 0, none⟩) 3 3) (w.alloc (.cells #[.int .u8 0, .int .u8 0, .int .u8 0] 5)) := fun _ => by kernel_rfl
  have hcv := fun o : Obj => run_convert_bytes_arg (P := Tryz.prog) ((w.alloc (.cells #[.int .u8 (224 + n / 64 / 64), .int .u8 (128 + n / 64 % 64), .int .u8 (128 + n % 64)] 5)).alloc o) 38 5 Tryz.underlying38 Tryz.underlying5 w.heap.size 0 3 3 [224 + n / 64 / 64, 128 + n / 64 % 64, 128 + n % 64] rfl
    (fun i hi => by match i, hi with
                    | 0, _ => exact ((Blk.new w _ _ _ rfl).alloc _).cell 0
                    | 1, _ => exact ((Blk.new w _ _ _ rfl).alloc _).cell 1
                    | 2, _ => exact ((Blk.new w _ _ _ rfl).alloc _).cell 2
                    | i + 3, hi => omega) 9 Tryz.underlying9
  have b0 : 0 ≤ n / 64 := by omega
  have b1 : n / 64 < 1024 := by omega
  have b2 : 0 ≤ n / 64 / 64 := by omega
  have b3 : n / 64 / 64 < 16 := by omega
  have b4 : 0 ≤ n % 64 := by omega
  have b5 : n % 64 < 64 := by omega
  have b6 : 0 ≤ n / 64 % 64 := by omega
  have b7 : n / 64 % 64 < 64 := by omega
  go_enter Tryz.func96, Tryz.ntmps96
  go_wp2_with (go_at_call 72; refine (cw _).mono ?_; rintro e w2 ⟨rfl, rfl⟩)
  refine wp_loop_rounds 3 ?_
  rw [rounds_succ]
  go_wp2
  rw [rounds_succ]
  go_wp2
  rw [rounds_succ]
  go_wp2
  go_ret
  exact ⟨rfl, ((Below.refl _ _).alloc (Nat.le_refl _) _).alloc (by simp) _⟩

set_option maxHeartbeats 1000000 in
theorem bytes_four (n : Int) (w : World) (h0 : 65536 ≤ n) (h1 : n ≤ 1114111) :
    Calls Tryz.prog 96 #[.int .i64 n] w fun e w' => e = .returned (.string ⟨(Lib.encodeRune n).toArray⟩) ∧ Below w.heap.size w w' := by
  rw [← str_enc n [240 + n / 64 / 64 / 64, 128 + n / 64 / 64 % 64, 128 + n / 64 % 64, 128 + n % 64] (by rw [Lib.encodeRuneZ_four h0 h1]; simp <;> omega)]
  have cw : ∀ W : World, Calls Tryz.prog 72 #[.int .i64 n] W fun e w' => e = .returned (.int .i64 4) ∧ W = w' := fun W => by have := width_any n W; rwa [widthZ, if_neg (by omega), if_neg (by omega), if_neg (by omega)] at this
  have hmk : ∀ w, (Instr.makeSlice 38 (.int .i64 4) (.int .i64 4)).run Tryz.prog w = .ok (.slice (some ⟨w.heap.size, 0, none⟩) 4 4) (w.alloc (.cells #[.int .u8 0, .int .u8 0, .int .u8 0, .int .u8 0] 5)) := fun _ => by kernel_rfl
  have hcv := fun o : Obj => run_convert_bytes_arg (P := Tryz.prog) ((w.alloc (.cells #[.int .u8 (240 + n / 64 / 64 / 64), .int .u8 (128 + n / 64 / 64 % 64), .int .u8 (128 + n / 64 % 64), .int .u8 (128 + n % 64)] 5)).alloc o) 38 5 Tryz.underlying38 Tryz.underlying5 w.heap.size 0 4 4 [240 + n / 64 / 64 / 64, 128 + n / 64 / 64 % 64, 128 + n / 64 % 64, 128 + n % 64] rfl
    (fun i hi => by match i, hi with
                    | 0, _ => exact ((Blk.new w _ _ _ rfl).alloc _).cell 0
                    | 1, _ => exact ((Blk.new w _ _ _ rfl).alloc _).cell 1
                    | 2, _ => exact ((Blk.new w _ _ _ rfl).alloc _).cell 2
                    | 3, _ => exact ((Blk.new w _ _ _ rfl).alloc _).cell 3
                    | i + 4, hi => omega) 9 Tryz.underlying9
  have b0 : 0 ≤ n / 64 := by omega
  have b1 : n / 64 < 17408 := by omega
  have b2 : 0 ≤ n / 64 / 64 := by omega
  have b3 : n / 64 / 64 < 272 := by omega
  have b4 : 0 ≤ n / 64 / 64 / 64 := by omega
  have b5 : n / 64 / 64 / 64 < 5 := by omega
  have b6 : 0 ≤ n % 64 := by omega
  have b7 : n % 64 < 64 := by omega
  have b8 : 0 ≤ n / 64 % 64 := by omega
  have b9 : n / 64 % 64 < 64 := by omega
  have b10 : 0 ≤ n / 64 / 64 % 64 := by omega
  have b11 : n / 64 / 64 % 64 < 64 := by omega
  go_enter Tryz.func96, Tryz.ntmps96
  go_wp2_with (go_at_call 72; refine (cw _).mono ?_; rintro e w2 ⟨rfl, rfl⟩)
  refine wp_loop_rounds 4 ?_
  rw [rounds_succ]
  go_wp2
  rw [rounds_succ]
  go_wp2
  rw [rounds_succ]
  go_wp2
  rw [rounds_succ]
  go_wp2
  go_ret
  exact ⟨rfl, ((Below.refl _ _).alloc (Nat.le_refl _) _).alloc (by simp) _⟩

theorem bytes_any (n : Int) (w : World) (h : Lib.validRune n = true) :
    Calls Tryz.prog 96 #[.int .i64 n] w fun e w' => e = .returned (.string ⟨(Lib.encodeRune n).toArray⟩) ∧ Below w.heap.size w w' := by
  rw [U.valid_iff] at h
  by_cases h1 : n < 128
  · exact bytes_one n w (by omega) h1
  by_cases h2 : n < 2048
  · exact bytes_two n w (by omega) h2
  by_cases h3 : n < 65536
  · exact bytes_three n w (by omega) h3 (by omega)
  · exact bytes_four n w (by omega) (by omega)
end Go.Proofs.YtaojgcioljcpmaaGreatDoor
