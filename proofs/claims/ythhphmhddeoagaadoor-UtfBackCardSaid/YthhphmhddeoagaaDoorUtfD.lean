/- Contracts of the reference's small functions (layer 9). -/
import Derived.Test.YthhphmhddeoagaaDoorUtfC
import Derived.Deep.QuietTactic
import Derived.BigQuiet
import Derived.RegionTactic
import Derived.Deep.RegionWith
import Derived.ChangeAlike
import Derived.StillTailTactics
namespace Go.Proofs.YthhphmhddeoagaaDoor
open Go.RowKit

set_option maxHeartbeats 400000 in
theorem may_any (n : Int) (w : World) :
    Calls Tryd.prog 22 #[.int .i64 n] w fun e w' => e = .returned (.bool (Lib.validRune n)) ∧ w = w' := by
  by_cases h0 : 0 ≤ n
  · by_cases h1 : n ≤ 1114111
    · by_cases h2 : 55296 ≤ n
      · by_cases h3 : n ≤ 57343
        · have e : Lib.validRune n = false := by simp [Lib.validRune]; omega
          rw [e]; clear e
          go_enter Tryd.func22, Tryd.ntmps22
          go_wp2
          go_ret
          exact ⟨rfl, rfl⟩
        · have e : Lib.validRune n = true := by simp [Lib.validRune]; omega
          rw [e]; clear e
          go_enter Tryd.func22, Tryd.ntmps22
          go_wp2
          go_ret
          exact ⟨rfl, rfl⟩
      · have e : Lib.validRune n = true := by simp [Lib.validRune]; omega
        rw [e]; clear e
        go_enter Tryd.func22, Tryd.ntmps22
        go_wp2
        go_ret
        exact ⟨rfl, rfl⟩
    · have e : Lib.validRune n = false := by simp [Lib.validRune]; omega
      rw [e]; clear e
      go_enter Tryd.func22, Tryd.ntmps22
      go_wp2
      go_ret
      exact ⟨rfl, rfl⟩
  · have e : Lib.validRune n = false := by simp [Lib.validRune]; omega
    rw [e]; clear e
    go_enter Tryd.func22, Tryd.ntmps22
    go_wp2
    go_ret
    exact ⟨rfl, rfl⟩

def widthZ (n : Int) : Int := if n < 128 then 1 else if n < 2048 then 2 else if n < 65536 then 3 else 4

set_option maxHeartbeats 400000 in
theorem width_any (n : Int) (w : World) :
    Calls Tryd.prog 23 #[.int .i64 n] w fun e w' => e = .returned (.int .i64 (widthZ n)) ∧ w = w' := by
  unfold widthZ
  by_cases h0 : n < 128
  · rw [if_pos h0]
    go_enter Tryd.func23, Tryd.ntmps23
    go_wp2
    go_ret
    exact ⟨rfl, rfl⟩
  rw [if_neg h0]
  by_cases h1 : n < 2048
  · rw [if_pos h1]
    go_enter Tryd.func23, Tryd.ntmps23
    go_wp2
    go_ret
    exact ⟨rfl, rfl⟩
  rw [if_neg h1]
  by_cases h2 : n < 65536
  · rw [if_pos h2]
    go_enter Tryd.func23, Tryd.ntmps23
    go_wp2
    go_ret
    exact ⟨rfl, rfl⟩
  rw [if_neg h2]
  go_enter Tryd.func23, Tryd.ntmps23
  go_wp2
  go_ret
  exact ⟨rfl, rfl⟩

theorem widthZ_le (n : Int) : 1 ≤ widthZ n ∧ widthZ n ≤ 4 := by
  unfold widthZ
  repeat' split
  all_goals omega

set_option maxHeartbeats 400000 in
theorem rnext_any (a l c n : Int) (w : World) (h : 0 ≤ a ∧ a ≤ 10000 ∧ 0 ≤ l ∧ l ≤ 10000 ∧ 0 ≤ c ∧ c ≤ 10000) :
    Calls Tryd.prog 19 #[.agg #[.int .i64 a, .int .i64 l, .int .i64 c], .int .i64 n] w fun e w' =>
      e = .returned (posV (U.next ⟨a, l, c⟩ n (widthZ n))) ∧ Below w.heap.size w w' := by
  obtain ⟨h1, h2, h3, h4, h5, h6⟩ := h
  have hw := widthZ_le n
  by_cases hr : n = 10
  · have e : posV (U.next ⟨a, l, c⟩ n (widthZ n)) = .agg #[.int .i64 (a + 1), .int .i64 (l + 1), .int .i64 1] := by subst hr; simp [U.next, widthZ, posV]
    rw [e]
    subst hr
    clear e hw
    go_enter Tryd.func19, Tryd.ntmps19
    go_wp2
    exact bodyPost_ret (v := .agg #[.int .i64 (a + 1), .int .i64 (l + 1), .int .i64 1]) (by simp [results, Tryd.results19, go_sem]) rfl ⟨rfl, by repeat (first | exact Below.refl _ _ | refine Below.alloc ?_ (by simp) _)⟩
  · have e : posV (U.next ⟨a, l, c⟩ n (widthZ n)) = .agg #[.int .i64 (a + widthZ n), .int .i64 l, .int .i64 (c + 1)] := by simp [U.next, hr, posV]
    rw [e]
    have hr' : (n == 10) = false := by simpa using hr
    clear hr e
    obtain ⟨z, hz⟩ : ∃ z, widthZ n = z := ⟨_, rfl⟩
    have cw : ∀ W : World, Calls Tryd.prog 23 #[.int .i64 n] W fun e w' => e = .returned (.int .i64 z) ∧ W = w' := fun W => by rw [← hz]; exact width_any n W
    rw [hz] at hw ⊢
    clear hz
    obtain ⟨z0, z1⟩ := hw
    go_enter Tryd.func19, Tryd.ntmps19
    go_wp2
    obtain ⟨W0, hW0⟩ : ∃ W0, ((w.alloc (.cells #[.int .i64 a, .int .i64 l, .int .i64 c] 26)).alloc (.cells #[.int .i64 0, .int .i64 0, .int .i64 0] 26)) = W0 := ⟨_, rfl⟩
    rw [hW0]
    have k0 : Blk W0 w.heap.size #[.int .i64 a, .int .i64 l, .int .i64 c] 26 := by rw [← hW0]; exact (Blk.new w _ _ _ rfl).alloc _
    have k1 : Blk W0 (w.heap.size + 1) #[.int .i64 0, .int .i64 0, .int .i64 0] 26 := by rw [← hW0]; exact Blk.new _ _ _ _ (by simp)
    have hb0 : Below w.heap.size w W0 := by rw [← hW0]; exact ((Below.refl _ _).alloc (Nat.le_refl _) _).alloc (by simp) _
    have c0 : W0.cell? ⟨w.heap.size, 0, none⟩ = some (.int .i64 a) := k0.cell 0
    have c1 : W0.cell? ⟨w.heap.size, 1, none⟩ = some (.int .i64 l) := k0.cell 1
    have c2 : W0.cell? ⟨w.heap.size, 2, none⟩ = some (.int .i64 c) := k0.cell 2
    have d0 : W0.cell? ⟨w.heap.size + 1, 0, none⟩ = some (.int .i64 0) := k1.cell 0
    have d1 : W0.cell? ⟨w.heap.size + 1, 1, none⟩ = some (.int .i64 0) := k1.cell 1
    have d2 : W0.cell? ⟨w.heap.size + 1, 2, none⟩ = some (.int .i64 0) := k1.cell 2
    have f0 := k1.free 0; have f1 := k1.free 1; have f2 := k1.free 2
    clear hW0
    refine wp_region_still_tail 11 (by kernel_rfl) (by kernel_rfl) ?_
    change wpStill _ _ W0.drew _ _ _
    simp only [List.take_succ_cons, List.take_zero, List.drop_succ_cons, List.drop_zero]
    repeat still_step
    still_call ((cw _).mono fun _ _ h => ⟨h.1, h.2.symm⟩)
    repeat still_step
    refine wpStill_nil ?_
    change wpList _ _ _ _ _ W0.drew
    go_wp2
    refine bodyPost_ret (v := .agg #[.int .i64 (a + z), .int .i64 l, .int .i64 (c + 1)]) (by simp [results, Tryd.results19, go_sem, d0, d1, d2]) rfl ⟨rfl, ?_⟩
    repeat (with_reducible first | exact hb0 | refine Below.drew ?_ | refine Below.setCell ?_ (by simp <;> omega) _)

theorem u8_wrap (n : Int) (h : 0 ≤ n ∧ n < 256) : IntKind.u8.wrap n = n := by
  simp [IntKind.wrap, IntKind.bits, IntKind.signed]; omega

theorem str_enc (n : Int) (xs : List Int) (h : Lib.encodeRuneZ n = xs) : strOfNums xs = ⟨(Lib.encodeRune n).toArray⟩ := by
  rw [Lib.encodeRune, h]; rfl

set_option maxHeartbeats 400000 in
theorem bytes_one (n : Int) (w : World) (h0 : 0 ≤ n) (h1 : n < 128) :
    Calls Tryd.prog 24 #[.int .i64 n] w fun e w' => e = .returned (.string ⟨(Lib.encodeRune n).toArray⟩) ∧ Below w.heap.size w w' := by
  rw [← str_enc n [n] (Lib.encodeRuneZ_one h0 (by omega))]
  have cw : ∀ W : World, Calls Tryd.prog 23 #[.int .i64 n] W fun e w' => e = .returned (.int .i64 1) ∧ W = w' := fun W => by have := width_any n W; rwa [widthZ, if_pos h1] at this
  have hcv := run_convert_bytes_arg (P := Tryd.prog) (w.alloc (.cells #[.int .u8 n] 5)) 50 5 Tryd.underlying50 Tryd.underlying5 w.heap.size 0 1 1 [n] rfl
    (fun i hi => by obtain rfl : i = 0 := by omega
                    exact (Blk.new w _ _ _ rfl).cell 0) 9 Tryd.underlying9
  go_enter Tryd.func24, Tryd.ntmps24
  go_wp2_with (go_at_call 23; refine (cw _).mono ?_; rintro e w2 ⟨rfl, rfl⟩)
  go_ret
  exact ⟨rfl, (Below.refl _ _).alloc (Nat.le_refl _) _⟩

set_option maxHeartbeats 1000000 in
theorem bytes_two (n : Int) (w : World) (h0 : 128 ≤ n) (h1 : n < 2048) :
    Calls Tryd.prog 24 #[.int .i64 n] w fun e w' => e = .returned (.string ⟨(Lib.encodeRune n).toArray⟩) ∧ Below w.heap.size w w' := by
  rw [← str_enc n [192 + n / 64, 128 + n % 64] (by rw [Lib.encodeRuneZ_two h0 (by omega)])]
  have cw : ∀ W : World, Calls Tryd.prog 23 #[.int .i64 n] W fun e w' => e = .returned (.int .i64 2) ∧ W = w' := fun W => by have := width_any n W; rwa [widthZ, if_neg (by omega), if_pos (by omega)] at this
  have hmk : ∀ w, (Instr.makeSlice 50 (.int .i64 2) (.int .i64 2)).run Tryd.prog w = .ok (.slice (some ⟨w.heap.size, 0, none⟩) 2 2) (w.alloc (.cells #[.int .u8 0, .int .u8 0] 5)) := fun _ => by kernel_rfl
  have hcv := fun o : Obj => run_convert_bytes_arg (P := Tryd.prog) ((w.alloc (.cells #[.int .u8 (192 + n / 64), .int .u8 (128 + n % 64)] 5)).alloc o) 50 5 Tryd.underlying50 Tryd.underlying5 w.heap.size 0 2 2 [192 + n / 64, 128 + n % 64] rfl
    (fun i hi => by match i, hi with
                    | 0, _ => exact ((Blk.new w _ _ _ rfl).alloc _).cell 0
                    | 1, _ => exact ((Blk.new w _ _ _ rfl).alloc _).cell 1
                    | i + 2, hi => omega) 9 Tryd.underlying9
  have b0 : 0 ≤ n / 64 := by omega
  have b1 : n / 64 < 32 := by omega
  have b2 : 0 ≤ n % 64 := by omega
  have b3 : n % 64 < 64 := by omega
  go_enter Tryd.func24, Tryd.ntmps24
  go_wp2_with (go_at_call 23; refine (cw _).mono ?_; rintro e w2 ⟨rfl, rfl⟩)
  refine wp_loop_rounds 2 ?_
  rw [rounds_succ]
  go_wp2
  rw [rounds_succ]
  go_wp2
  go_ret
  exact ⟨rfl, ((Below.refl _ _).alloc (Nat.le_refl _) _).alloc (by simp) _⟩

set_option maxHeartbeats 1000000 in
theorem bytes_three (n : Int) (w : World) (h0 : 2048 ≤ n) (h1 : n < 65536) (h2 : n < 55296 ∨ 57343 < n) :
    Calls Tryd.prog 24 #[.int .i64 n] w fun e w' => e = .returned (.string ⟨(Lib.encodeRune n).toArray⟩) ∧ Below w.heap.size w w' := by
  rw [← str_enc n [224 + n / 64 / 64, 128 + n / 64 % 64, 128 + n % 64] (by rw [Lib.encodeRuneZ_three (by omega)]; simp <;> omega)]
  have cw : ∀ W : World, Calls Tryd.prog 23 #[.int .i64 n] W fun e w' => e = .returned (.int .i64 3) ∧ W = w' := fun W => by have := width_any n W; rwa [widthZ, if_neg (by omega), if_neg (by omega), if_pos (by omega)] at this
  have hmk : ∀ w, (Instr.makeSlice 50 (.int .i64 3) (.int .i64 3)).run Tryd.prog w = .ok (.slice (some ⟨w.heap.size, 0, none⟩) 3 3) (w.alloc (.cells #[.int .u8 0, .int .u8 0, .int .u8 0] 5)) := fun _ => by kernel_rfl
  have hcv := fun o : Obj => run_convert_bytes_arg (P := Tryd.prog) ((w.alloc (.cells #[.int .u8 (224 + n / 64 / 64), .int .u8 (128 + n / 64 % 64), .int .u8 (128 + n % 64)] 5)).alloc o) 50 5 Tryd.underlying50 Tryd.underlying5 w.heap.size 0 3 3 [224 + n / 64 / 64, 128 + n / 64 % 64, 128 + n % 64] rfl
    (fun i hi => by match i, hi with
                    | 0, _ => exact ((Blk.new w _ _ _ rfl).alloc _).cell 0
                    | 1, _ => exact ((Blk.new w _ _ _ rfl).alloc _).cell 1
                    | 2, _ => exact ((Blk.new w _ _ _ rfl).alloc _).cell 2
                    | i + 3, hi => omega) 9 Tryd.underlying9
  have b0 : 0 ≤ n / 64 := by omega
  have b1 : n / 64 < 1024 := by omega
  have b2 : 0 ≤ n / 64 / 64 := by omega
  have b3 : n / 64 / 64 < 16 := by omega
  have b4 : 0 ≤ n % 64 := by omega
  have b5 : n % 64 < 64 := by omega
  have b6 : 0 ≤ n / 64 % 64 := by omega
  have b7 : n / 64 % 64 < 64 := by omega
  go_enter Tryd.func24, Tryd.ntmps24
  go_wp2_with (go_at_call 23; refine (cw _).mono ?_; rintro e w2 ⟨rfl, rfl⟩)
  refine wp_loop_rounds 3 ?_
  rw [rounds_succ]
  go_wp2
  rw [rounds_succ]
  go_wp2
  rw [rounds_succ]
  go_wp2
  go_ret
  exact ⟨rfl, ((Below.refl _ _).alloc (Nat.le_refl _) _).alloc (by simp) _⟩

set_option maxHeartbeats 1000000 in
theorem bytes_four (n : Int) (w : World) (h0 : 65536 ≤ n) (h1 : n ≤ 1114111) :
    Calls Tryd.prog 24 #[.int .i64 n] w fun e w' => e = .returned (.string ⟨(Lib.encodeRune n).toArray⟩) ∧ Below w.heap.size w w' := by
  rw [← str_enc n [240 + n / 64 / 64 / 64, 128 + n / 64 / 64 % 64, 128 + n / 64 % 64, 128 + n % 64] (by rw [Lib.encodeRuneZ_four h0 h1]; simp <;> omega)]
  have cw : ∀ W : World, Calls Tryd.prog 23 #[.int .i64 n] W fun e w' => e = .returned (.int .i64 4) ∧ W = w' := fun W => by have := width_any n W; rwa [widthZ, if_neg (by omega), if_neg (by omega), if_neg (by omega)] at this
  have hmk : ∀ w, (Instr.makeSlice 50 (.int .i64 4) (.int .i64 4)).run Tryd.prog w = .ok (.slice (some ⟨w.heap.size, 0, none⟩) 4 4) (w.alloc (.cells #[.int .u8 0, .int .u8 0, .int .u8 0, .int .u8 0] 5)) := fun _ => by kernel_rfl
  have hcv := fun o : Obj => run_convert_bytes_arg (P := Tryd.prog) ((w.alloc (.cells #[.int .u8 (240 + n / 64 / 64 / 64), .int .u8 (128 + n / 64 / 64 % 64), .int .u8 (128 + n / 64 % 64), .int .u8 (128 + n % 64)] 5)).alloc o) 50 5 Tryd.underlying50 Tryd.underlying5 w.heap.size 0 4 4 [240 + n / 64 / 64 / 64, 128 + n / 64 / 64 % 64, 128 + n / 64 % 64, 128 + n % 64] rfl
    (fun i hi => by match i, hi with
                    | 0, _ => exact ((Blk.new w _ _ _ rfl).alloc _).cell 0
                    | 1, _ => exact ((Blk.new w _ _ _ rfl).alloc _).cell 1
                    | 2, _ => exact ((Blk.new w _ _ _ rfl).alloc _).cell 2
                    | 3, _ => exact ((Blk.new w _ _ _ rfl).alloc _).cell 3
                    | i + 4, hi => omega) 9 Tryd.underlying9
  have b0 : 0 ≤ n / 64 := by omega
  have b1 : n / 64 < 17408 := by omega
  have b2 : 0 ≤ n / 64 / 64 := by omega
  have b3 : n / 64 / 64 < 272 := by omega
  have b4 : 0 ≤ n / 64 / 64 / 64 := by omega
  have b5 : n / 64 / 64 / 64 < 5 := by omega
  have b6 : 0 ≤ n % 64 := by omega
  have b7 : n % 64 < 64 := by omega
  have b8 : 0 ≤ n / 64 % 64 := by omega
  have b9 : n / 64 % 64 < 64 := by omega
  have b10 : 0 ≤ n / 64 / 64 % 64 := by omega
  have b11 : n / 64 / 64 % 64 < 64 := by omega
  go_enter Tryd.func24, Tryd.ntmps24
  go_wp2_with (go_at_call 23; refine (cw _).mono ?_; rintro e w2 ⟨rfl, rfl⟩)
  refine wp_loop_rounds 4 ?_
  rw [rounds_succ]
  go_wp2
  rw [rounds_succ]
  go_wp2
  rw [rounds_succ]
  go_wp2
  rw [rounds_succ]
  go_wp2
  go_ret
  exact ⟨rfl, ((Below.refl _ _).alloc (Nat.le_refl _) _).alloc (by simp) _⟩

theorem bytes_any (n : Int) (w : World) (h : Lib.validRune n = true) :
    Calls Tryd.prog 24 #[.int .i64 n] w fun e w' => e = .returned (.string ⟨(Lib.encodeRune n).toArray⟩) ∧ Below w.heap.size w w' := by
  rw [U.valid_iff] at h
  by_cases h1 : n < 128
  · exact bytes_one n w (by omega) h1
  by_cases h2 : n < 2048
  · exact bytes_two n w (by omega) h2
  by_cases h3 : n < 65536
  · exact bytes_three n w (by omega) h3 (by omega)
  · exact bytes_four n w (by omega) (by omega)
end Go.Proofs.YthhphmhddeoagaaDoor
