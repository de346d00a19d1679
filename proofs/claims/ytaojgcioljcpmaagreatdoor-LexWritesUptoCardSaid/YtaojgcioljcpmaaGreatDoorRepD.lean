/- sync.Once at a replacer: the parts of its slow road, each a contract of its own (after the worked example toys/lazy). -/
import Derived.Test.YtaojgcioljcpmaaGreatDoorRepC
import Derived.Defers
import Derived.Laws.Pointers
import Derived.Laws.LoneSync
import Derived.RegionTactic
import Derived.RegionCalls
import Derived.ChangeAlike
namespace Go.Proofs.YtaojgcioljcpmaaGreatDoor
open Go.RowKit

theorem disable (w : World) : (callFunc 135 #[]).run Tryz.prog w = .ok (.value (.tuple #[])) w := run_call_mark0 Tryz.func135 (by kernel_rfl) (by kernel_rfl) (by kernel_rfl) .disable (by kernel_rfl) w
theorem enable (w : World) : (callFunc 137 #[]).run Tryz.prog w = .ok (.value (.tuple #[])) w := run_call_mark0 Tryz.func137 (by kernel_rfl) (by kernel_rfl) (by kernel_rfl) .enable (by kernel_rfl) w
theorem acquire (a : Addr) (w : World) : (callFunc 138 #[.pointer (some a)]).run Tryz.prog w = .ok (.value (.tuple #[])) w := run_call_marked Tryz.func138 (by kernel_rfl) (by kernel_rfl) (by kernel_rfl) .acquire (by kernel_rfl) a w
theorem releaseMerge (a : Addr) (w : World) : (callFunc 140 #[.pointer (some a)]).run Tryz.prog w = .ok (.value (.tuple #[])) w := run_call_marked Tryz.func140 (by kernel_rfl) (by kernel_rfl) (by kernel_rfl) .releaseMerge (by kernel_rfl) a w

/-- '(*sync/atomic.Bool).Store(true)', entered as a deferred call -/
theorem store_deferred (a : Addr) (x : Value) (u : FrameMode) (w : World) (hc : w.cell? a = some x) (hz : w.frozen? a = false) :
    CallsD Tryz.prog 113 #[.pointer (some a), .bool true] u w fun e u' w' => u' = u ∧ (e = .returned (.tuple #[]) ∧ w' = w.drew.setCell a (.int .u32 1)) := by
  have hc' : w.drew.cell? a = some x := by go_simp
  have hz' : w.drew.frozen? a = false := by go_simp
  have hst := run_call_store (P := Tryz.prog) Tryz.func126 (by kernel_rfl) (by kernel_rfl) (by kernel_rfl) (by kernel_rfl) (k := .u32) (y := 1) hc' hz'
  go_enter_d Tryz.func113, Tryz.ntmps113
  go_wp2
  go_region_calls
  all_goals (go_end0; exact ⟨rfl, rfl⟩)

set_option maxRecDepth 50000 in
/-- '(*sync.Mutex).Unlock', entered as a deferred call, the lock held and nobody waiting -/
theorem unlock_deferred (a : Addr) (u : FrameMode) (w : World) (hc : w.cell? a = some (.int .i32 1)) (hz : w.frozen? a = false) :
    CallsD Tryz.prog 112 #[.pointer (some a)] u w fun e u' w' => u' = u ∧ (e = .returned (.tuple #[]) ∧ w' = w.setCell a (.int .i32 0)) := by
  have hd := disable
  have he := enable
  have hr := releaseMerge
  have hadd := run_call_add (P := Tryz.prog) Tryz.func141 (by kernel_rfl) (by kernel_rfl) (by kernel_rfl) .i32 (by kernel_rfl) (y := -1) (s := 0) hc hz (by simp [go_sem]; rfl)
  have hcv := run_convert_to_unsafe (P := Tryz.prog) (src := 212) (dst := 91) Tryz.underlying212 Tryz.underlying91 (by kernel_rfl) hc
  go_enter_d Tryz.func112, Tryz.ntmps112
  go_wp2
  go_end0
  go_wp2
  go_end0
  exact ⟨rfl, rfl⟩

set_option maxRecDepth 50000 in
/-- '(*sync.Mutex).Lock', the lock free -/
theorem lock_free (a : Addr) (w : World) (hc : w.cell? a = some (.int .i32 0)) (hz : w.frozen? a = false) :
    Calls Tryz.prog 111 #[.pointer (some a)] w fun e w' => e = .returned (.tuple #[]) ∧ w' = w.setCell a (.int .i32 1) := by
  have hd := disable
  have he := enable
  have ha := acquire
  have hcas := run_call_cas_hit (P := Tryz.prog) Tryz.func136 (by kernel_rfl) (by kernel_rfl) (by kernel_rfl) .i32 (by kernel_rfl) (y := 1) hc hz
  have hc' : (w.setCell a (.int .i32 1)).cell? a = some (.int .i32 1) := World.cell?_setCell_same w a _ hc
  have hcv := run_convert_to_unsafe (P := Tryz.prog) (src := 212) (dst := 91) Tryz.underlying212 Tryz.underlying91 (by kernel_rfl) hc'
  go_enter Tryz.func111, Tryz.ntmps111
  go_wp2
  first | go_end0 | (simp only [Exit.inBlock, Exit.then]; refine bodyPost_ret (results_none rfl _ _ _) rfl ?_) | refine bodyPost_ret (results_none rfl _ _ _) rfl ?_
  go_wp2
  go_end0
  exact ⟨rfl, rfl⟩

/-- what the replacer's one-time work leaves -/
def Built (w : World) (rb b : Nat) (w' : World) : Prop :=
  ∃ w1, RepAt w1 w.heap.size b ∧ Below w.heap.size w w1 ∧ w' = (w1.setCell ⟨rb, 3, none⟩ (.iface 179 (.pointer (some ⟨b, 0, none⟩)))).setCell ⟨rb, 4, none⟩ (.slice none 0 0)
set_option maxRecDepth 50000 in
theorem buildOnce_any (rb A C : Nat) (w : World) (x3 : Value) (h3 : w.cell? ⟨rb, 3, none⟩ = some x3) (h4 : w.cell? ⟨rb, 4, none⟩ = some (.slice (some ⟨A, 0, none⟩) 8 C)) (f3 : w.frozen? ⟨rb, 3, none⟩ = false) (f4 : w.frozen? ⟨rb, 4, none⟩ = false) (hrb : rb < w.heap.size) (hs : StrAt w A pairs) :
    Calls Tryz.prog 67 #[.pointer (some ⟨rb, 0, none⟩)] w fun e w' => e = .returned (.tuple #[]) ∧ ∃ b, Built w rb b w' := by
  have HB := Lib.hid (build_any rb A C w h4 hs)
  clear hs
  go_enter Tryz.func67, Tryz.ntmps67
  go_wp2_with (
    (go_at_call 93
     refine HB.out.mono ?_
     rintro _ w1 ⟨b, rfl, hrep, hbe⟩
     have g3 := (hbe.cell (p := ⟨rb, 3, none⟩) hrb).trans h3
     have g4 := (hbe.cell (p := ⟨rb, 4, none⟩) hrb).trans h4
     have z3 := (hbe.frozen (p := ⟨rb, 3, none⟩) hrb).trans f3
     have z4 := (hbe.frozen (p := ⟨rb, 4, none⟩) hrb).trans f4
     have HREP := Lib.hid hrep
     have HBE := Lib.hid hbe
     clear hrep hbe
     have g4' : (w1.setCell ⟨rb, 3, none⟩ (.iface 179 (.pointer (some ⟨b, 0, none⟩)))).cell? ⟨rb, 4, none⟩ = some (.slice (some ⟨A, 0, none⟩) 8 C) := (World.cell?_setCell_other _ _ _ _ (by simp)).trans g4))
  go_end0
  exact ⟨rfl, b, w1, HREP.out, HBE.out, rfl⟩
end Go.Proofs.YtaojgcioljcpmaaGreatDoor
