/- The listed tables that the run reads, where they stand; a world that holds all listed variables. -/
import Derived.Test.YtfeppmhcpfccfaaGreatDoorEvW
import Derived.Test.YtfeppmhcpfccfaaGreatDoorProg
import Derived.Test.YtfeppmhcpfccfaaGreatDoorChecked
import Derived.Test.YtfeppmhcpfccfaaGreatDoorRows
import Derived.KernelRfl
import Derived.Deep.DeepHandedRow
import Derived.Deep.DeepLaidRun
import Derived.Deep.DeepWitnessRowRef
import Derived.Lib.LaidTab
import Derived.Lib.SpaceR
import Derived.Lib.Space
import Derived.Lib.DecodeN
import Derived.Lib.ItoaNum
import Derived.Lib.LaidU8
set_option linter.unusedVariables false
set_option linter.unusedSimpArgs false
namespace Go.Proofs.YtfeppmhcpfccfaaGreatDoor
open Go Go.ChangeShapes Go.WideShapes Go.ChangeAt Go.RowKit Go.Lib Go.Shelf

theorem own : ownKnob Tryz.prog.godebug = none := by kernel_rfl
theorem space_eq : Rows.laid_strings_asciiSpace (H := Unit) = Lib.tabData .u8 Lib.asciiSpaceTab := by kernel_rfl
theorem pow_eq : Rows.laid_internal_strconv_uint64pow10 (H := Unit) = Lib.tabData .u64 Lib.pow10Tab := by kernel_rfl
theorem tabIs_of_var {P : Program} {W : World} {name : String} {k : IntKind} {zs : List Int} {g : Nat} {t e : TypeId} {n : Nat}
    (hg : P.globalNamed name = some g) (hty : (P.globals[g]?).map (·.type) = some t) (ht : P.underlying t = some (.array n e)) (he : P.underlying e = some (.int k)) (hce : P.cellsOf e = 1) (hct : P.cellsOf t = n)
    (h : VarReads P W name (tabData k zs)) : ∃ e' f, W.heap[g]? = some (.cells ⟨zs.map fun z => Value.int k z⟩ e' f) := by
  obtain ⟨g', t', cs, fuel, p, hg', ht', hvar, hd⟩ := h
  obtain rfl := Option.some.inj (hg.symm.trans hg')
  obtain rfl := Option.some.inj (hty.symm.trans ht')
  have hc := cells_of_tab ht he hce hct hd
  unfold World.var? at hvar
  rw [hg] at hvar
  simp only [Option.bind_some] at hvar
  split at hvar
  · rename_i cs' e' f heq
    injection hvar with hvar
    subst hvar
    refine ⟨e', f, ?_⟩
    rw [heq, ← hc]
  · cases hvar
/-- the tables -/
noncomputable def tabs : List Fast.TabE := [⟨4, 5, 1, 256, Lib.asciiSpaceTab.map fun z => Value.int .u8 z⟩, ⟨0, 567, 1, 20, Lib.pow10Tab.map fun z => Value.int .u64 z⟩]
/-- an array of integers as cells -/
noncomputable def cellsIn : DataW Unit → Array Value
  | .agg l => (l.map fun | .lit (.int k z) => Value.int k z | _ => undef).toArray
  | _ => #[]
/-- A world that holds the variables: the settled one, with what their initialisers lay. -/
noncomputable def laidWorld (os : Os) : World :=
  let N := (World.settled Tryz.prog os).heap.size
  let w0 := World.holding Tryz.prog os ⟨#[.cells (Lib.whiteT.map fun (z : Nat) => Value.int .u16 (z : Int)).toArray 704, .cells #[.slice (some ⟨N, 0, none⟩) 7 7, .slice none 0 0, .int .i64 2] 701,
    .cells #[.string ⟨#[118, 97, 108, 117, 101, 32, 111, 117, 116, 32, 111, 102, 32, 114, 97, 110, 103, 101]⟩] 711, .cells #[.string ⟨#[105, 110, 118, 97, 108, 105, 100, 32, 115, 121, 110, 116, 97, 120]⟩] 711], #[], []⟩
  let put (h : Array Obj) (g : Nat) (cs : Array Value) : Array Obj := h.modify g fun
    | .cells _ t frozen => .cells cs t frozen
    | o => o
  let h1 := put w0.heap 1 (Lib.firstTab.map fun z => Value.int .u8 z).toArray
  let h2 := put h1 2 ((List.range 16).flatMap fun i => [Value.int .u8 (Lib.accLo i), Value.int .u8 (Lib.accHi i)]).toArray
  let h3 := put h2 4 (Lib.asciiSpaceTab.map fun z => Value.int .u8 z).toArray
  let h4 := put h3 7 #[.pointer (some ⟨N + 1, 0, none⟩)]
  let h5 := put h4 0 (Lib.pow10Tab.map fun z => Value.int .u64 z).toArray
  let h6 := put h5 9 #[.iface 709 (.pointer (some ⟨N + 2, 0, none⟩))]
  let h7 := put h6 8 #[.iface 709 (.pointer (some ⟨N + 3, 0, none⟩))]
  let h8 := put h7 5 (cellsIn Rows.laid_math_bits_deBruijn32tab)
  let h9 := put h8 6 (cellsIn Rows.laid_math_bits_deBruijn64tab)
  { w0 with heap := h9 }
end Go.Proofs.YtfeppmhcpfccfaaGreatDoor
