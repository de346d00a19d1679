/- Contract: great (layer 10): tokens that are no more than are gone through are at most 20000. -/
import Derived.Test.YtaojgcioljcpmaaGreatDoorKnB
namespace Go.Proofs.YtaojgcioljcpmaaGreatDoor
open Go.RowKit

set_option maxHeartbeats 2000000 in
theorem great_any (l : List T.Tok) (a : Option Addr) (m c : Nat) (w : World) (hm : l.length = m) (hmm : m ≤ 100000000) (hok : ∀ t ∈ l, TokOk t) (hrow : Row w w.heap.size 6 (.slice a m c) m (toksCells l)) :
    Calls Tryz.prog 9 #[.slice a m c] w fun e w' => ((e = .returned (.bool false) ∧ m ≤ 20000) ∨ e = .returned (.bool true)) ∧ Below w.heap.size w w' := by
  have HM := Lib.hid hm
  have HOK := Lib.hid hok
  have HROW := Lib.hid hrow
  clear hm hok hrow
  go_enter Tryz.func9, Tryz.ntmps9
  go_wp2
  go_loopw [8, 3] (fun u v wr => ∃ (i k : Nat), u = .int .i64 i ∧ v = .int .i64 k ∧ i ≤ m ∧ i ≤ k ∧ k ≤ 20000 ∧ Below w.heap.size w wr) (fun u _ _ => m - (intOf u).toNat)
  case atStart => exact ⟨0, 0, rfl, rfl, Nat.zero_le _, Nat.zero_le _, Nat.zero_le _, Below.refl _ _⟩
  case round =>
    obtain ⟨i, k, rfl, rfl, hi, hik, hk, hbe⟩ := hrel
    have hse := hbe.size
    by_cases hlt : i < m
    · have hil : i < l.length := by rw [HM.out]; exact hlt
      obtain ⟨g, off, rfl, hg, hc, d0, d1, d2, d3, d4, d5⟩ := row_tok HROW.out HM.out i hil
      have hto := HOK.out _ (List.getElem_mem hil)
      obtain ⟨x, hx⟩ : ∃ x, l[i]'hil = x := ⟨_, rfl⟩
      rw [hx] at d0 d1 d2 d3 d4 d5 hto
      obtain ⟨kx, tt, n, ⟨pa, pl, pc⟩⟩ := x
      obtain ⟨ht1, _, _⟩ := hto
      simp only at d0 d1 d2 d3 d4 d5 ht1
      have e0 := (hbe.cell (p := ⟨g, off + i * 6, none⟩) hg).trans d0
      have e1 := (hbe.cell (p := ⟨g, off + i * 6 + 1, none⟩) hg).trans d1
      have e2 := (hbe.cell (p := ⟨g, off + i * 6 + 2, none⟩) hg).trans d2
      have e3 := (hbe.cell (p := ⟨g, off + i * 6 + 3, none⟩) hg).trans d3
      have e4 : wr.cell? ⟨g, off + i * 6 + 3 + 1, none⟩ = _ := (hbe.cell (p := ⟨g, off + i * 6 + 4, none⟩) hg).trans d4
      have e5 : wr.cell? ⟨g, off + i * 6 + 3 + 2, none⟩ = _ := (hbe.cell (p := ⟨g, off + i * 6 + 5, none⟩) hg).trans d5
      have him : (i : Int) < (m : Int) := by omega
      have HBE := Lib.hid hbe
      clear hx d0 d1 d2 d3 d4 d5 hbe
      go_wp2_with fail
      · go_ret
        exact ⟨.inr rfl, HBE.out.alloc hse _⟩
      · refine ⟨⟨i + 1, k + (min tt.length 16384 + 1), by rw [Int.natCast_add]; rfl, ?_, by omega, by omega, by omega, HBE.out.alloc hse _⟩, by simp [intOf]; omega⟩
        congr 1
        omega
    · have him : i = m := by omega
      subst him
      have HBE := Lib.hid hbe
      clear hbe
      go_wp2
      go_ret
      exact ⟨.inl ⟨rfl, by omega⟩, HBE.out⟩
end Go.Proofs.YtaojgcioljcpmaaGreatDoor
