/- Contract of strings.Builder's WriteString at this program, with what it leaves of the buffer's capacity (turned after the shelf's worked walk). -/
import Derived.Test.YtaojgcioljcpmaaGreatDoorBld
import Derived.Shelf.Strings.BuilderCap
namespace Go.Proofs.YtaojgcioljcpmaaGreatDoor
open Go.RowKit

set_option maxHeartbeats 2000000 in
set_option maxRecDepth 100000 in
theorem bld_string_cap (B b : Nat) (bs : List Value) (s : ByteArray) (w : World) (h : Lib.BuilderAtF 40 5 B b (.pointer (some ⟨b, 0, none⟩)) bs w) (hlen : bs.length + s.size ≤ 140737488355328) (hBw : B ≤ w.heap.size) (v0 : Value) (hv0 : w.cell? ⟨b, 1, none⟩ = some v0) :
    Calls Tryz.prog 14 #[.pointer (some ⟨b, 0, none⟩), .string s] w fun e w' => e = .returned (.tuple #[.int .i64 s.size, .nilIface]) ∧ (Lib.BuilderAtF 40 5 B b (.pointer (some ⟨b, 0, none⟩)) (bs ++ Lib.strCells s) w' ∧ Below B w w') ∧
      ∃ ao n cap, w'.cell? ⟨b, 1, none⟩ = some (.slice ao n cap) ∧ v0.capOf ≤ cap := by
  obtain ⟨i0, hi, hz0, hz1, hz2⟩ := info_parts bld_info8
  have hsl : Tryz.prog.underlying 38 = some (.slice 5) := by kernel_rfl
  have hst : Tryz.prog.underlying 9 = some .string := by kernel_rfl
  have hcc := bld_check_used b w h.cell0
  obtain ⟨hB, v, hbk, hown, hne⟩ := h
  have c0 : w.cell? ⟨b, 0, none⟩ = some (.pointer (some ⟨b, 0, none⟩)) := by rw [Lib.cell_of_heap hbk]; rfl
  have c1 : w.cell? ⟨b, 1, none⟩ = some v := by rw [Lib.cell_of_heap hbk]; rfl
  obtain rfl : v = v0 := by rw [c1] at hv0; exact Option.some.inj hv0
  clear hv0
  go_enter Tryz.func14, Tryz.ntmps14
  go_wp2_with (go_at_call 34; refine hcc.mono ?_)
  rintro e w1 ⟨rfl, rfl⟩
  go_wp2_with (at_builtin; refine Lib.wpList_append_own_stringF_cap _ rfl _ _ 38 9 rfl B 5 i0 hsl hst hi hz0 hz1 hz2 _ _ _ rfl hown s rfl ?c3 ?c4 ?c5 ?_)
  case c3 => unfold maxLen; omega
  case c4 => omega
  case c5 => exact hBw
  intro v' w2 hown' hgrow _ hcapv
  have hlt : b < w1.heap.size := by
    rcases Nat.lt_or_ge b w1.heap.size with h' | h'
    · exact h'
    · simp [Array.getElem?_eq_none h'] at hbk
  have hb2 : w2.heap[b]? = some (.cells #[.pointer (some ⟨b, 0, none⟩), v] 40 (0, 0)) := by
    rw [hgrow.block b hlt (fun e => hne e.symm)]
    exact hbk
  have d0 : w2.cell? ⟨b, 0, none⟩ = some (.pointer (some ⟨b, 0, none⟩)) := by rw [Lib.cell_of_heap hb2]; rfl
  have d1 : w2.cell? ⟨b, 1, none⟩ = some v := by rw [Lib.cell_of_heap hb2]; rfl
  have f1 : w2.frozen? ⟨b, 1, none⟩ = false := Lib.frozen_of_heap hb2 1
  obtain ⟨ao, n', cap, rfl⟩ : ∃ ao n' cap, v' = .slice ao n' cap := by
    rcases hown'.2 with ⟨hv, _⟩ | ⟨g, cap, cur, fz, hv, _⟩
    · exact ⟨_, _, _, hv⟩
    · exact ⟨_, _, _, hv⟩
  have HCV := Lib.hid hcapv
  clear hcapv
  go_wp2
  go_ret2
  refine ⟨rfl, ⟨?_, ?_⟩, _, _, _, World.cell?_setCell_same _ _ _ d1, HCV.out⟩
  · exact Lib.BuilderAtF.put (T := 40) (e := 5) hB hb2 (bs' := bs ++ Lib.strCells s) (by simpa [Lib.strCells_length] using hown') (by decide)
  · exact ((Below.refl B _).grown hgrow hBw (fun k hk => (hown.lt k hk).1)).setCell (p := ⟨b, 1, none⟩) hB _
end Go.Proofs.YtaojgcioljcpmaaGreatDoor
