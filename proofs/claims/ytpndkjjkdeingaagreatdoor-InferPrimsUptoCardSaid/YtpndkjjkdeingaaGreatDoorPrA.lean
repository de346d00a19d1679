/- InferPrims: a type and a number that aren't known; what operators answer at the type's size. -/
import Derived.Test.YtpndkjjkdeingaaGreatDoorAtEvZ
import Derived.Test.YtpndkjjkdeingaaGreatDoorAtTabs
import Derived.Test.YtpndkjjkdeingaaGreatDoorAtGood
import Derived.Test.YtpndkjjkdeingaaGreatDoorAtBldI
import Derived.Laws.Runes
import Derived.KernelRfl
set_option linter.unusedVariables false
set_option linter.unusedSimpArgs false
namespace Go.Proofs.YtpndkjjkdeingaaGreatDoor
open Go Go.RowKit Go.Proofs.YtpndkjjkdeingaaGreatDoor.Sim

/-- a type's cells, its size, the size of one more, a number -/
def prVal (a b c d : Int) (sa : Option Addr) (n m : Nat) (s z : Int) (k : Nat) : Value := match k with
  | 0 => .int .u8 a
  | 1 => .int .i64 b
  | 2 => .int .i64 c
  | 3 => .int .u8 d
  | 4 => .slice sa n m
  | 5 => .int .i64 s
  | 6 => .int .i64 (s + 1)
  | _ => .int .i64 z
theorem prLeaf (a b c d : Int) (sa : Option Addr) (n m : Nat) (s z : Int) (k : Nat) : (∀ x, prVal a b c d sa n m s z k ≠ .agg x) ∧ ∀ x, prVal a b c d sa n m s z k ≠ .tuple x := by
  unfold prVal
  split <;> exact ⟨fun x h => (by cases h), fun x h => (by cases h)⟩
theorem prNoB (a b c d : Int) (sa : Option Addr) (n m : Nat) (s z : Int) (k : Nat) (x : Bool) : prVal a b c d sa n m s z k ≠ .bool x := by
  unfold prVal
  split <;> (intro h; cases h)
/-- is the size above 1000, above 300; is the size of one more above 300? -/
def prTab (g s t : Bool) : List OrcE := [⟨.gtr, .float .f64 5, .int .i64 1000, .bool g⟩, ⟨.gtr, .float .f64 5, .int .i64 300, .bool s⟩, ⟨.add, .int .i64 1, .float .f64 5, .float .f64 6⟩, ⟨.gtr, .float .f64 6, .int .i64 300, .bool t⟩]
/-- where these stand in a world -/
@[reducible] def prAt (a b c d : Int) (sa : Option Addr) (n m : Nat) (s z : Int) (w0 : World) (tab : List OrcE) : Atoms :=
  ⟨prVal a b c d sa n m s z, prLeaf a b c d sa n m s z, prNoB a b c d sa n m s z, tab, fun w => Below w0.heap.size w0 w, w0.heap.size, fun _ h => h.size, fun _ _ _ hB h hb => h.trans (hb.mono hB)⟩
theorem rel_int [Atoms] {ρ : Ren} {k : IntKind} {z : Int} {v : Value} (h : VR ρ (.int k z) v) : v = .int k z := by cases h; rfl
theorem rel_atom [Atoms] {ρ : Ren} {f : FloatKind} {k : Nat} {v : Value} (h : VR ρ (.float f k) v) : v = Atoms.val k := by cases h; rfl
theorem run_bin [Atoms] {P : Program} {op : BinOp} {ty : TypeId} {x y : Operand} {i j : IntKind} {a b : Int} {r : Value} (h : pureRun P (binOp op ty (.int i a) (.int j b)) = some r) (W : World) :
    ((eqGuard op ty x y (.int i a) (.int j b)).bind fun _ => binOp op ty (.int i a) (.int j b)).run P W = .ok r W :=
  pureRun_sound (pureRun_bind.2 ⟨(), Fast.eqGuard_int (P := P) op ty x y i j a b, h⟩) W
theorem orc_of {P : Program} {a b c d : Int} {sa : Option Addr} {n m : Nat} {s z : Int} {w0 : World} {g q t : Bool} (h0 : 0 ≤ s) (h1 : s ≤ 1048576) (hg : g = decide (1000 < s)) (hs : q = decide (300 < s)) (ht : t = decide (300 < s + 1)) :
    letI : Atoms := prAt a b c d sa n m s z w0 (prTab g q t)
    ∀ e ∈ (Atoms.tab : List OrcE), ∀ (ρ : Ren) (x' y' : Value), VR ρ e.x x' → VR ρ e.y y' → ∀ (ty : TypeId) (x y : Operand), ∃ v', VR ρ e.r v' ∧ ∀ W : World, ((eqGuard e.op ty x y x' y').bind fun _ => binOp e.op ty x' y').run P W = .ok v' W := by
  letI : Atoms := prAt a b c d sa n m s z w0 (prTab g q t)
  intro e he ρ x' y' hx hy ty x y
  have he : e ∈ prTab g q t := he
  simp only [prTab, List.mem_cons, List.mem_nil_iff, or_false] at he
  rcases he with rfl | rfl | rfl | rfl
  · have e1 := rel_atom hx
    have e2 := rel_int hy
    have e1 : x' = .int .i64 s := e1
    subst e1 e2
    refine ⟨.bool g, .bool _, fun W => run_bin ?_ W⟩
    rw [Fast.bin_gtr]
    show some (Value.bool (Fast.intLt 1000 s)) = _
    rw [Fast.intLt_eq, hg]
  · have e1 := rel_atom hx
    have e2 := rel_int hy
    have e1 : x' = .int .i64 s := e1
    subst e1 e2
    refine ⟨.bool q, .bool _, fun W => run_bin ?_ W⟩
    rw [Fast.bin_gtr]
    show some (Value.bool (Fast.intLt 300 s)) = _
    rw [Fast.intLt_eq, hs]
  · have e1 := rel_int hx
    have e2 := rel_atom hy
    have e2 : y' = .int .i64 s := e2
    subst e1 e2
    refine ⟨.int .i64 (s + 1), .atom .f64 6, fun W => run_bin ?_ W⟩
    rw [Fast.bin_add]
    show some (Value.int .i64 (IntKind.i64.wrap (1 + s))) = _
    rw [wrap_small _ (by omega) (by omega), Int.add_comm]
  · have e1 := rel_atom hx
    have e2 := rel_int hy
    have e1 : x' = .int .i64 (s + 1) := e1
    subst e1 e2
    refine ⟨.bool t, .bool _, fun W => run_bin ?_ W⟩
    rw [Fast.bin_gtr]
    show some (Value.bool (Fast.intLt 300 (s + 1))) = _
    rw [Fast.intLt_eq, ht]
end Go.Proofs.YtpndkjjkdeingaaGreatDoor
