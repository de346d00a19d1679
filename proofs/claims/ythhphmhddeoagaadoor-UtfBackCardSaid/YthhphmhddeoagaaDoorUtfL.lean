/- What the rows list of Go's tables, and a world that holds them; the frame of each law's card. -/
import Derived.Test.YthhphmhddeoagaaDoorUtfK
import Derived.Test.YthhphmhddeoagaaDoorCards
import Derived.Test.YthhphmhddeoagaaDoorTie
import Derived.ProofKit
import Derived.OpenShut
import Derived.PinnedBridge
import Derived.Deep.DeepHandedRow
import Derived.Lib.LaidTab
import Derived.Lib.LaidU8T
namespace Go.Proofs.YthhphmhddeoagaaDoor
open Go.ChangeShapes Go.WideShapes Go.ChangeAt Go.RowKit Go.Lib Go.Shelf
open Go.ChangeMaps (open_string shut_string)

theorem own : ownKnob Tryd.prog.godebug = none := by kernel_rfl
theorem accept_eq : Rows.laid_unicode_utf8_acceptRanges = Lib.acceptData := by kernel_rfl
theorem xU8 : U8Extra Tryd.prog Tryd.lays260_ren := ⟨by kernel_rfl, by kernel_rfl, by kernel_rfl, by kernel_rfl, by kernel_rfl, by kernel_rfl, by kernel_rfl⟩

theorem tabs_of {W : World} (hL : laidMet Tryd.prog Rows.utfPointsRow.laid W) : Lib.Utf8Tabs 0 1 W ∧ 2 ≤ W.heap.size := by
  have h3 := Lib.laidMet.reads hL (.tail _ (.head _))
  have h4 := Lib.laidMet.reads hL (.head _)
  have e3 : Rows.laid_unicode_utf8_first = Lib.firstData := Pinned.utf8First_eq
  rw [e3] at h3
  rw [accept_eq] at h4
  have hT := utf8Tabs_of_readsT (U8Types.of260 Tryd.lays260) xU8 h3 h4
  refine ⟨hT, ?_⟩
  have := World.block_lt_of_cell? W _ (hT.2 0 (by omega)).1
  exact this

/-- A world that holds the two tables: the settled one, with what their initialisers lay. -/
noncomputable def laidWorld (os : Os) : World :=
  let w0 := World.holding Tryd.prog os ⟨#[], #[], []⟩
  let put (h : Array Obj) (g : Nat) (cs : Array Value) : Array Obj := h.modify g fun
    | .cells _ t frozen => .cells cs t frozen
    | o => o
  let h1 := put w0.heap 0 (Lib.firstTab.map fun z => Value.int .u8 z).toArray
  let h2 := put h1 1 ((List.range 16).flatMap fun i => [Value.int .u8 (Lib.accLo i), Value.int .u8 (Lib.accHi i)]).toArray
  { w0 with heap := h2 }

theorem laid_met (os : Os) (args : Array Value) : laidMet Tryd.prog Rows.utfPointsRow.laid ((laidWorld os).forCall (fun _ _ => 0) ⟨#[], args, []⟩).memory :=
  laidMet_of_run' 8 (by kernel_rfl) (by kernel_rfl)

/-- a slice of runes that came in: what it reads as -/
theorem open_runes {H : Type} {enc : TypeId × Value → H} {W : World} {v : Value} {d : DataW H} {ps : List MemPlace} {base : Nat} (hv : Value.okWide Tryd.prog W .any base 37 v)
    (h : DataW.Trod enc Tryd.prog W 0 (fun _ => true) true 37 v d ps) : ∃ zs : List Int, (∀ z ∈ zs, -2147483648 ≤ z ∧ z ≤ 2147483647) ∧ Row W W.heap.size 1 v zs.length (i32Cells zs) := by
  obtain ⟨a0, len, cap, rfl⟩ := okWide_slice Tryd.underlying37 hv
  obtain ⟨fuel, hf⟩ := h
  rcases open_ints Tryd.underlying37 Tryd.underlying21 (by kernel_rfl) hf with ⟨hcs, hx⟩ | ⟨a, len', cap', zs, hcs, _, hl, hm, hz, hx, hcell, hwz⟩
  · simp [Value.cells] at hcs
    obtain ⟨rfl, rfl, rfl⟩ := hcs
    exact ⟨[], by simp, rfl, Nat.zero_le _, .inl ⟨rfl, _, _, rfl⟩⟩
  · simp only [Value.cells, List.cons.injEq, Value.slice.injEq, and_true] at hcs
    obtain ⟨rfl, rfl, rfl⟩ := hcs
    have hlen : (zs.take len).length = len := by rw [List.length_take]; simp at hz; omega
    have hbd : ∀ z ∈ zs, -2147483648 ≤ z ∧ z ≤ 2147483647 := fun z hzm => by
      have := hwz z hzm
      simp [Lit.wf] at this
      have e1 : IntKind.i32.min = -2147483648 := by decide
      have e2 : IntKind.i32.max = 2147483647 := by decide
      omega
    refine ⟨zs.take len, fun z hzm => hbd z (List.mem_of_mem_take hzm), by rw [i32Cells, List.length_map]; omega, by rw [hlen]; omega, ?_⟩
    rw [hlen]
    by_cases h0 : len = 0
    · subst h0; exact .inl ⟨rfl, _, _, rfl⟩
    · obtain ⟨b, off, rfl, hc⟩ := ints_at hcell (by simp at hz; omega)
      have hc0 := hc 0 (by simp at hz; omega)
      refine .inr ⟨b, off, cap, rfl, World.block_lt_of_cell? W _ hc0, hl, fun j u hj => ?_⟩
      have hjl : j < len := by
        have := (List.getElem?_eq_some_iff.1 hj).1
        rw [i32Cells, List.length_map, hlen] at this
        exact this
      rw [hc j (by simp at hz; omega)]
      rw [i32Cells, List.getElem?_map, List.getElem?_take_of_lt hjl] at hj
      rw [← hj, List.getD_eq_getElem?_getD]
      have : j < zs.length := by simp at hz; omega
      rw [List.getElem?_eq_getElem this]
      rfl

end Go.Proofs.YthhphmhddeoagaaDoor
