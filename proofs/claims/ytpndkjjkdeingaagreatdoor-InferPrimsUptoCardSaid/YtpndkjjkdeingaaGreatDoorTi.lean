/- The program's tie, and each row's, out of its parts. Conditions: none. -/
import Derived.Test.YtpndkjjkdeingaaGreatDoorTiA
import Derived.Test.YtpndkjjkdeingaaGreatDoorTiB
import Derived.Test.YtpndkjjkdeingaaGreatDoorTiC
import Derived.Test.YtpndkjjkdeingaaGreatDoorTiD
import Derived.Test.YtpndkjjkdeingaaGreatDoorTiE
import Derived.Test.YtpndkjjkdeingaaGreatDoorTiF
import Derived.Test.YtpndkjjkdeingaaGreatDoorTiG
set_option linter.unusedVariables false
set_option linter.unusedSimpArgs false
namespace Go.Proofs.YtpndkjjkdeingaaGreatDoor
open Go
set_option maxRecDepth 100000
theorem both_some {α : Type} {x : Option α} {f g : α → Bool} (h : x.map f = some true) (h2 : x.map g = some true) : x.map (fun y => f y && g y) = some true := by
  cases x with
  | none => cases h
  | some y =>
    injection h with h
    injection h2 with h2
    show some (f y && g y) = some true
    rw [h, h2]
    rfl
theorem tie : Tryz.prog.laidByTextLater tieL [.data, .data, .listed, .sentinel, .sentinel, .data, .data, .data] true :=
  Program.laidByTextLater_by_run 400 8 ti_word ti_word2 ti_root ti_kinds ti_vars ti_named ti_done ti_reads (fun os tape => both_some (ti_nodup os tape) (ti_rows os tape)) ti_plain
theorem inferKnown_row_tie : Rows.inferKnownRow.laidByTextAt .later Tryz.pinned [.pinned, .data, .data, .listed, .sentinel, .sentinel, .data, .data, .data] true :=
  OpenClaim.laidByTextAt_pinned rfl rfl tie rfl rfl rfl rfl (fun y hy _e => by
    simp only [Rows.inferKnownRow, List.zip_cons_cons, List.zip_nil_right, List.mem_cons, List.mem_nil_iff, or_false] at hy
    rcases hy with rfl | rfl | rfl | rfl | rfl | rfl | rfl | rfl | rfl
    · exact ⟨pin_laid_unicode_utf8_first, by kernel_rfl⟩
    · cases _e
    · cases _e
    · cases _e
    · cases _e
    · cases _e
    · cases _e
    · cases _e
    · cases _e) fits1
theorem inferPrims_row_tie : Rows.inferPrimsRow.laidByTextAt .later Tryz.pinned [.pinned, .data, .data, .listed, .sentinel, .sentinel, .data, .data, .data] true :=
  OpenClaim.laidByTextAt_pinned rfl rfl tie rfl rfl rfl rfl (fun y hy _e => by
    simp only [Rows.inferPrimsRow, List.zip_cons_cons, List.zip_nil_right, List.mem_cons, List.mem_nil_iff, or_false] at hy
    rcases hy with rfl | rfl | rfl | rfl | rfl | rfl | rfl | rfl | rfl
    · exact ⟨pin_laid_unicode_utf8_first, by kernel_rfl⟩
    · cases _e
    · cases _e
    · cases _e
    · cases _e
    · cases _e
    · cases _e
    · cases _e
    · cases _e) fits1
theorem inferKnownUpto_row_tie : Rows.inferKnownUptoRow.laidByTextAt .later Tryz.pinned [.pinned, .data, .data, .listed, .sentinel, .sentinel, .data, .data, .data] true :=
  OpenClaim.laidByTextAt_pinned rfl rfl tie rfl rfl rfl rfl (fun y hy _e => by
    simp only [Rows.inferKnownUptoRow, List.zip_cons_cons, List.zip_nil_right, List.mem_cons, List.mem_nil_iff, or_false] at hy
    rcases hy with rfl | rfl | rfl | rfl | rfl | rfl | rfl | rfl | rfl
    · exact ⟨pin_laid_unicode_utf8_first, by kernel_rfl⟩
    · cases _e
    · cases _e
    · cases _e
    · cases _e
    · cases _e
    · cases _e
    · cases _e
    · cases _e) fits1
theorem inferPrimsUpto_row_tie : Rows.inferPrimsUptoRow.laidByTextAt .later Tryz.pinned [.pinned, .data, .data, .listed, .sentinel, .sentinel, .data, .data, .data] true :=
  OpenClaim.laidByTextAt_pinned rfl rfl tie rfl rfl rfl rfl (fun y hy _e => by
    simp only [Rows.inferPrimsUptoRow, List.zip_cons_cons, List.zip_nil_right, List.mem_cons, List.mem_nil_iff, or_false] at hy
    rcases hy with rfl | rfl | rfl | rfl | rfl | rfl | rfl | rfl | rfl
    · exact ⟨pin_laid_unicode_utf8_first, by kernel_rfl⟩
    · cases _e
    · cases _e
    · cases _e
    · cases _e
    · cases _e
    · cases _e
    · cases _e
    · cases _e) fits1
end Go.Proofs.YtpndkjjkdeingaaGreatDoor
