/- The listed tables that the run reads, where they stand; a world that holds all listed variables. -/
import Derived.Test.YtnneooidkbhbeaaGreatDoorEvW
import Derived.Test.YtnneooidkbhbeaaGreatDoorProg
import Derived.Test.YtnneooidkbhbeaaGreatDoorChecked
import Derived.Test.YtnneooidkbhbeaaGreatDoorRows
import Derived.KernelRfl
import Derived.Deep.DeepHandedRow
import Derived.Deep.DeepLaidRun
import Derived.Deep.DeepWitnessRowRef
import Derived.Lib.LaidTab
import Derived.Lib.SpaceR
import Derived.Lib.Space
import Derived.Lib.DecodeN
import Derived.Lib.ItoaNum
import Derived.Lib.LaidU8
import Derived.Test.YtnneooidkbhbeaaGreatDoorSimJ
import Derived.Lib.Builder
import Derived.Lib.UnsafeStr
import Derived.WalkKit
import Derived.Laws.Externs
import Derived.Laws.IdiomCopy
import Derived.Laws.BitsLemmas
import Derived.Test.YtnneooidkbhbeaaGreatDoorEvE
set_option linter.unusedVariables false
set_option linter.unusedSimpArgs false
namespace Go.Proofs.YtnneooidkbhbeaaGreatDoor
open Go Go.ChangeShapes Go.WideShapes Go.ChangeAt Go.RowKit Go.Lib Go.Shelf

theorem own : ownKnob Tryz.prog.godebug = none := by kernel_rfl
theorem space_eq : Rows.laid_strings_asciiSpace (H := Unit) = Lib.tabData .u8 Lib.asciiSpaceTab := by kernel_rfl
theorem pow_eq : Rows.laid_internal_strconv_uint64pow10 (H := Unit) = Lib.tabData .u64 Lib.pow10Tab := by kernel_rfl
theorem tabIs_of_var {P : Program} {W : World} {name : String} {k : IntKind} {zs : List Int} {g : Nat} {t e : TypeId} {n : Nat}
    (hg : P.globalNamed name = some g) (hty : (P.globals[g]?).map (·.type) = some t) (ht : P.underlying t = some (.array n e)) (he : P.underlying e = some (.int k)) (hce : P.cellsOf e = 1) (hct : P.cellsOf t = n)
    (h : VarReads P W name (tabData k zs)) : ∃ e' f, W.heap[g]? = some (.cells ⟨zs.map fun z => Value.int k z⟩ e' f) := by
  obtain ⟨g', t', cs, fuel, p, hg', ht', hvar, hd⟩ := h
  obtain rfl := Option.some.inj (hg.symm.trans hg')
  obtain rfl := Option.some.inj (hty.symm.trans ht')
  have hc := cells_of_tab ht he hce hct hd
  unfold World.var? at hvar
  rw [hg] at hvar
  simp only [Option.bind_some] at hvar
  split at hvar
  · rename_i cs' e' f heq
    injection hvar with hvar
    subst hvar
    refine ⟨e', f, ?_⟩
    rw [heq, ← hc]
  · cases hvar
/-- the tables -/
noncomputable def tabs : List Fast.TabE := [⟨0, 5, 1, 256, Lib.asciiSpaceTab.map fun z => Value.int .u8 z⟩, ⟨4, 229, 1, 20, Lib.pow10Tab.map fun z => Value.int .u64 z⟩]
/-- an array of integers as cells -/
noncomputable def cellsIn : DataW Unit → Array Value
  | .agg l => (l.map fun | .lit (.int k z) => Value.int k z | _ => undef).toArray
  | _ => #[]
/-- A world that holds the variables: the settled one, with what their initialisers lay. -/
noncomputable def laidWorld (os : Os) : World :=
  let N := (World.settled Tryz.prog os).heap.size
  let w0 := World.holding Tryz.prog os ⟨#[.cells (Lib.whiteT.map fun (z : Nat) => Value.int .u16 (z : Int)).toArray 214, .cells #[.slice (some ⟨N, 0, none⟩) 7 7, .slice none 0 0, .int .i64 2] 211,
    .cells #[.string ⟨#[118, 97, 108, 117, 101, 32, 111, 117, 116, 32, 111, 102, 32, 114, 97, 110, 103, 101]⟩] 295, .cells #[.string ⟨#[105, 110, 118, 97, 108, 105, 100, 32, 115, 121, 110, 116, 97, 120]⟩] 295], #[], []⟩
  let put (h : Array Obj) (g : Nat) (cs : Array Value) : Array Obj := h.modify g fun
    | .cells _ t frozen => .cells cs t frozen
    | o => o
  let h1 := put w0.heap 2 (Lib.firstTab.map fun z => Value.int .u8 z).toArray
  let h2 := put h1 3 ((List.range 16).flatMap fun i => [Value.int .u8 (Lib.accLo i), Value.int .u8 (Lib.accHi i)]).toArray
  let h3 := put h2 0 (Lib.asciiSpaceTab.map fun z => Value.int .u8 z).toArray
  let h4 := put h3 1 #[.pointer (some ⟨N + 1, 0, none⟩)]
  let h5 := put h4 4 (Lib.pow10Tab.map fun z => Value.int .u64 z).toArray
  let h6 := put h5 6 #[.iface 293 (.pointer (some ⟨N + 2, 0, none⟩))]
  let h7 := put h6 5 #[.iface 293 (.pointer (some ⟨N + 3, 0, none⟩))]
  let h8 := put h7 8 (cellsIn Rows.laid_math_bits_deBruijn32tab)
  let h9 := put h8 9 (cellsIn Rows.laid_math_bits_deBruijn64tab)
  { w0 with heap := h9 }
end Go.Proofs.YtnneooidkbhbeaaGreatDoor
/- The program is one that the evaluator takes: its types' zero values name no block, its orders are mixed, no function of it counts goroutines. -/
namespace Go.Proofs.YtnneooidkbhbeaaGreatDoor
open Go
set_option maxRecDepth 100000
def numsB (P : Program) : Bool := P.funcs.all fun fn => !(fn.name == "runtime.NumGoroutine")
theorem goodZeros : Sim.zerosB Tryz.prog = true := by kernel_rfl
theorem goodNums : numsB Tryz.prog = true := by kernel_rfl
theorem goodMixed : (Tryz.prog).follows .mixedOrders = true := by kernel_rfl
theorem good : Sim.Good Tryz.prog := by
  refine ⟨Sim.zeros_of goodZeros, goodMixed, fun f fn h => ?_⟩
  have h1 := goodNums
  unfold numsB at h1
  obtain ⟨hlt, rfl⟩ := Array.getElem?_eq_some_iff.1 h
  have := Array.all_eq_true.1 h1 f hlt
  simpa using this
end Go.Proofs.YtnneooidkbhbeaaGreatDoor
/- strings.Builder's check and its text at this program, walked (after the shelf's worked walks). -/
namespace Go.Proofs.YtnneooidkbhbeaaGreatDoor
open Go Go.RowKit

set_option maxHeartbeats 1000000 in
set_option maxRecDepth 100000 in
theorem bld_check_used (b : Nat) (w : World) (h0 : w.cell? ⟨b, 0, none⟩ = some (.pointer (some ⟨b, 0, none⟩))) :
    Calls Tryz.prog 128 #[.pointer (some ⟨b, 0, none⟩)] w fun e w' => e = .returned (.tuple #[]) ∧ w' = w := by
  have hinfo : (Tryz.prog.info? 112).map (·.size) = some 2 := by kernel_rfl
  obtain ⟨j, hj, hjs⟩ := Option.map_eq_some_iff.1 hinfo
  have hup : Tryz.prog.underlying 109 = some (.pointer 112) := by kernel_rfl
  have huu : Tryz.prog.underlying 190 = some .unsafePointer := by kernel_rfl
  clear hjs huu
  go_enter Tryz.func128, Tryz.ntmps128
  go_wp2
  rw [Lib.run_neq_ptr_same w _ hup hj]
  go_wp2
  go_end0
  exact ⟨rfl, rfl⟩

set_option maxHeartbeats 1000000 in
set_option maxRecDepth 100000 in
theorem bld_check_fresh (b : Nat) (w : World) (h0 : w.cell? ⟨b, 0, none⟩ = some (.pointer none)) (hsh : w.shape? b = some (112, 2)) (hfz : w.frozen? ⟨b, 0, none⟩ = false) :
    Calls Tryz.prog 128 #[.pointer (some ⟨b, 0, none⟩)] w fun e w' => e = .returned (.tuple #[]) ∧ w' = w.setCell ⟨b, 0, none⟩ (.pointer (some ⟨b, 0, none⟩)) := by
  have hinfo : (Tryz.prog.info? 112).map (·.size) = some 2 := by kernel_rfl
  obtain ⟨j, hj, hjs⟩ := Option.map_eq_some_iff.1 hinfo
  have hup : Tryz.prog.underlying 109 = some (.pointer 112) := by kernel_rfl
  have huu : Tryz.prog.underlying 190 = some .unsafePointer := by kernel_rfl
  have hlies : liesAt Tryz.prog Tryz.prog.depth 112 (2 / Tryz.prog.cellsOf 112) 0 112 1 = true := by kernel_rfl
  go_enter Tryz.func128, Tryz.ntmps128
  go_wp2
  rw [Lib.run_to_unsafe w ⟨b, 0, none⟩ hup huu hj (by rw [hjs]; decide) hsh (Nat.zero_lt_succ 1)]
  simp only [Result.andThen]
  rw [Oper.upon_value]
  go_wp2
  rw [run_callFunc_extern Tryz.func166 (by kernel_rfl) (by kernel_rfl) (by kernel_rfl) (e := Extern.AbiNoEscape.same) (by kernel_rfl)]
  rw [Lib.run_noEscape]
  simp only [Result.andThen]
  rw [Oper.upon_value]
  go_wp2
  rw [Lib.run_from_unsafe w ⟨b, 0, none⟩ huu hup hj hsh hlies]
  simp only [Result.andThen]
  rw [Oper.upon_value]
  go_wp2
  go_end0
  exact ⟨rfl, rfl⟩


set_option maxHeartbeats 2000000 in
set_option maxRecDepth 100000 in
theorem bld_textNil (b : Nat) (w : World) (h : w.cell? ⟨b, 1, none⟩ = some (.slice none 0 0)) :
    Calls Tryz.prog 67 #[.pointer (some ⟨b, 0, none⟩)] w fun e w' => e = .returned (.string ⟨#[]⟩) ∧ w' = w.drew := by
  have c1 : w.drew.cell? ⟨b, 1, none⟩ = some (.slice none 0 0) := h
  have hSD : (Builtin.unsafeSliceData_ #[110] 166 #[.slice none 0 0]).run Tryz.prog w.drew = .ok (.pointer none) w.drew := rfl
  have hUS : (Builtin.unsafeString_ #[166, 3] 9 #[.pointer none, .int .i64 0]).run Tryz.prog w.drew = .ok (.string .empty) w.drew := Lib.run_unsafeString_none w.drew _ _ _ none
  go_enter Tryz.func67, Tryz.ntmps67
  go_wp2
  go_region
  all_goals (go_wp2; go_ret; exact ⟨rfl, rfl⟩)

set_option maxHeartbeats 2000000 in
set_option maxRecDepth 100000 in
theorem bld_text (b d cap : Nat) (w : World) (cur : Array Value) (l : List UInt8) (h : w.cell? ⟨b, 1, none⟩ = some (.slice (some ⟨d, 0, none⟩) l.length cap)) (hg : w.heap[d]? = some (.cells cur 5 (0, 0)))
    (h0 : l ≠ []) (hlc : l.length ≤ cap) (hl : l.length ≤ 1000000) (hc : ∀ (j : Nat) (x : UInt8), l[j]? = some x → cur[j]? = some (.int .u8 x.toNat)) :
    Calls Tryz.prog 67 #[.pointer (some ⟨b, 0, none⟩)] w fun e w' => e = .returned (.string ⟨l.toArray⟩) ∧ w' = w.drew.freeze ⟨d, 0, none⟩ l.length := by
  have hl0 : l.length ≠ 0 := by simpa using h0
  have c1 : w.drew.cell? ⟨b, 1, none⟩ = some (.slice (some ⟨d, 0, none⟩) l.length cap) := h
  have hsz : l.length ≤ cur.size := by
    have hlt : l.length - 1 < l.length := by omega
    have := hc (l.length - 1) l[l.length - 1] (List.getElem?_eq_getElem hlt)
    have := (Array.getElem?_eq_some_iff.1 this).1
    omega
  have hSD : (Builtin.unsafeSliceData_ #[110] 166 #[.slice (some ⟨d, 0, none⟩) l.length cap]).run Tryz.prog w.drew = .ok (.pointer (some ⟨d, 0, none⟩)) w.drew :=
    Lib.run_unsafeSliceData_row _ _ _ _ _ _ (by omega)
  have hpt : Tryz.prog.underlying 166 = some (.pointer 5) := by kernel_rfl
  have hcb : Tryz.prog.cellsOf 5 = 1 := by kernel_rfl
  have hUS : (Builtin.unsafeString_ #[166, 3] 9 #[.pointer (some ⟨d, 0, none⟩), .int .i64 l.length]).run Tryz.prog w.drew = .ok (.string ⟨l.toArray⟩) (w.drew.freeze ⟨d, 0, none⟩ l.length) := by
    refine Lib.run_unsafeString_row w.drew _ _ _ 5 hpt hcb d cur.size (by have hg' : w.drew.heap[d]? = some (.cells cur 5 (0, 0)) := hg; simp [World.shape?, hg']) l h0 (by omega) (by omega) ?_
    intro j x hx
    have hg' : w.drew.heap[d]? = some (.cells cur 5 (0, 0)) := hg
    have he : Addr.add ⟨d, 0, none⟩ j = ⟨d, j, none⟩ := by
      cases j <;> simp [Addr.add]
    rw [he, Lib.cell_of_heap hg']
    exact hc j x hx
  go_enter Tryz.func67, Tryz.ntmps67
  go_wp2
  go_region
  all_goals (go_wp2; go_ret; exact ⟨rfl, rfl⟩)
end Go.Proofs.YtnneooidkbhbeaaGreatDoor
/- What the evaluator takes of strings.Builder, at this program: no other function bears those names. -/
namespace Go.Proofs.YtnneooidkbhbeaaGreatDoor
open Go Go.RowKit

/-- does each function pass, with its number? -/
def eachFrom (p : Nat → Func → Bool) : List Func → Nat → Bool
  | [], _ => true
  | f :: l, i => p i f && eachFrom p l (i + 1)
theorem eachFrom_at {p : Nat → Func → Bool} : ∀ (l : List Func) (i : Nat), eachFrom p l i = true → ∀ (j : Nat) (f : Func), l[j]? = some f → p (i + j) f = true
  | [], _, _, j, f, hj => by simp at hj
  | g :: l, i, h, j, f, hj => by
    unfold eachFrom at h
    rw [Bool.and_eq_true] at h
    cases j with
    | zero =>
      have : g = f := by simpa using hj
      subst this
      exact h.1
    | succ j =>
      have := eachFrom_at l (i + 1) h.2 j f (by simpa using hj)
      rwa [show i + 1 + j = i + (j + 1) by omega] at this
/-- of this name, of so many slots: that number alone, of a Builder -/
def onlyB (P : Program) (pt : TypeId) (m : Nat) (nm : String) (g0 : Nat) : Bool := eachFrom (fun g f => !(Nat.beq f.ntmps m && (f.name == nm)) || (Nat.beq g g0 && f.params[0]? == some pt)) P.funcs.toList 0
theorem onlyB_of {P : Program} {pt te0 : TypeId} (hu : P.underlying pt = some (.pointer te0)) {m : Nat} {nm : String} {g0 : Nat} (h : onlyB P pt m nm g0 = true) {g te : Nat} (hg : Fast.bldT P g m nm = some te) : g = g0 ∧ te = te0 := by
  unfold Fast.bldT at hg
  cases hf : P.funcs[g]? with
  | none => rw [hf] at hg; cases hg
  | some fn =>
    rw [hf] at hg
    dsimp only at hg
    cases hq : (Nat.beq fn.ntmps m && (Nat.blt g Fast.yB && fn.body.isSome) && (fn.name == nm)) with
    | false => rw [hq] at hg; cases hg
    | true =>
      rw [hq, cond_true] at hg
      simp only [Bool.and_eq_true] at hq
      have h1 := eachFrom_at _ 0 h g fn (by rw [Array.getElem?_toList]; exact hf)
      simp only [hq.1.1, hq.2, Bool.and_self, Bool.not_true, Bool.false_or, Bool.and_eq_true, Nat.zero_add, beq_iff_eq] at h1
      rw [h1.2] at hg
      dsimp only at hg
      rw [hu] at hg
      injection hg with hg
      exact ⟨Nat.eq_of_beq_eq_true h1.1, hg.symm⟩
theorem ptB : Tryz.prog.underlying 109 = some (.pointer 112) := by kernel_rfl
theorem ck_only : onlyB Tryz.prog 109 20 "(*strings.Builder).copyCheck" 128 = true := by kernel_rfl
theorem tk_only : onlyB Tryz.prog 109 14 "(*strings.Builder).String" 67 = true := by kernel_rfl
theorem byte_only : Fast.byteT Tryz.prog 112 = some 5 := by kernel_rfl
theorem bldOk : Fast.BldOk Tryz.prog where
  used := by
    intro g te hg b w h0
    obtain ⟨rfl, rfl⟩ := onlyB_of ptB ck_only hg
    exact bld_check_used b w h0
  fresh := by
    intro g te hg b w c hh hs hc0
    obtain ⟨rfl, rfl⟩ := onlyB_of ptB ck_only hg
    refine bld_check_fresh b w ?_ ?_ ?_
    · rw [Lib.cell_of_heap hh]; exact hc0
    · simp [World.shape?, hh, hs]
    · simp [World.frozen?, hh]
  textNil := by
    intro g te hg b w h0
    obtain ⟨rfl, rfl⟩ := onlyB_of ptB tk_only hg
    exact bld_textNil b w h0
  text := by
    intro g te tb hg htb b d cap w cur l h1 h2 h3 h4 h5 h6
    obtain ⟨rfl, rfl⟩ := onlyB_of ptB tk_only hg
    rw [byte_only] at htb
    injection htb with htb
    subst htb
    exact bld_text b d cap w cur l h1 h2 h3 h4 h5 h6
end Go.Proofs.YtnneooidkbhbeaaGreatDoor
