/- InferPrims: the law answers true, whatever the number, whatever the type (of at most 1048576 nodes), where the tables stand. -/
import Derived.Test.YtpndkjjkdeingaaGreatDoorPrB
import Derived.Test.YtpndkjjkdeingaaGreatDoorInT
import Derived.Test.YtpndkjjkdeingaaGreatDoorInR
import Derived.Test.YtpndkjjkdeingaaGreatDoorInA
import Derived.Test.YtpndkjjkdeingaaGreatDoorAtMemoIW
set_option linter.unusedVariables false
set_option linter.unusedSimpArgs false
namespace Go.Proofs.YtpndkjjkdeingaaGreatDoor
open Go Go.RowKit Go.Proofs.YtpndkjjkdeingaaGreatDoor.Sim Go.Proofs.YtpndkjjkdeingaaGreatDoor.Fast

theorem goodWith [Atoms] (h : ∀ e ∈ (Atoms.tab : List OrcE), ∀ (ρ : Ren) (x' y' : Value), VR ρ e.x x' → VR ρ e.y y' → ∀ (ty : TypeId) (x y : Operand), ∃ v', VR ρ e.r v' ∧ ∀ W : World, ((eqGuard e.op ty x y x' y').bind fun _ => binOp e.op ty x' y').run Tryz.prog W = .ok v' W) : Sim.Good Tryz.prog :=
  ⟨Sim.zeros_of goodZeros, goodMixed, goodNames, h⟩
theorem works_calls {W : World} (hW : Fast.StandT tabs W) : Calls Tryz.prog 7 #[] W fun e w' => e = .returned (.bool true) ∧ Below W.heap.size W w' :=
  letI := noAtoms
  memoIW_ok.says hW trivial
set_option maxRecDepth 100000 in
theorem prims_of (x : Ty) (z : Int) (a b c d : Int) (sa : Option Addr) (n m : Nat) (w : World) (hT : Fast.StandT tabs w) (hs : x.size ≤ 1048576) (hus : Rds w w.heap.size [.int .u8 a, .int .i64 b, .int .i64 c, .int .u8 d, .slice sa n m] x.d)
    (g q t : Bool) (hg : g = decide (1000 < (x.size : Int))) (hq : q = decide (300 < (x.size : Int))) (ht : t = decide (300 < (x.size : Int) + 1)) (fv : FV) (hfv : fv = prZ ∨ fv = .int .i64 z)
    (h : @prRun (prAt a b c d sa n m x.size z w (prTab g q t)) fv (takesZ z) (tyMay x) = true) :
    Calls Tryz.prog 4 #[.int .i64 z, .agg #[.int .u8 a, .int .i64 b, .int .i64 c, .int .u8 d, .slice sa n m]] w fun e w' => e = .returned (.bool true) ∧ Below w.heap.size w w' := by
  letI inst : Atoms := prAt a b c d sa n m x.size z w (prTab g q t)
  have hok : ok1 0 (.one fv) = true := by rcases hfv with rfl | rfl <;> rfl
  have hrow : ∀ {ρ : Ren} {v : Value}, VR ρ (val1 (fun b => b) prRow) v → v = .agg #[.int .u8 a, .int .i64 b, .int .i64 c, .int .u8 d, .slice sa n m] := fun h => row_atoms (ks := [0, 1, 2, 3, 4]) h
  have hnum : ∀ {ρ : Ren} {v : Value}, VR ρ (val1 (fun b => b) (.one fv)) v → v = .int .i64 z := by
    intro ρ v h
    rcases hfv with rfl | rfl
    · exact rel_atom h
    · exact rel_int h
  have hnum2 : ∀ ρ : Ren, VR ρ (val1 (fun b => b) (.one fv)) (.int .i64 z) := by
    intro ρ
    rcases hfv with rfl | rfl
    · exact .atom .f64 7
    · exact .int .i64 z
  have hst : ∀ W : World, Below w.heap.size w W → Rds W W.heap.size [.int .u8 a, .int .i64 b, .int .i64 c, .int .u8 d, .slice sa n m] x.d := fun W hW => (hus.keep hW).mono hW.size
  have hm : ∀ e ∈ prMs fv (takesZ z) (tyMay x), MemoOk Tryz.prog tabs e := by
    intro e he
    simp only [prMs, List.mem_cons, List.mem_nil_iff, or_false] at he
    rcases he with rfl | rfl | rfl | rfl | rfl | rfl | rfl | rfl
    · refine memo_plain rfl fun W hW hE ρ args ha => ?_
      obtain rfl : args = #[] := by
        have := ha.1
        exact Array.eq_empty_of_size_eq_zero this.symm
      exact ⟨.bool true, fun _ => .bool true, works_calls hW⟩
    · refine memo_plain rfl fun W hW hE ρ args ha => ?_
      obtain ⟨v, rfl, hv⟩ := args_one ha
      rw [hrow hv]
      exact ⟨.int .i64 x.size, fun _ => .atom .f64 5, size_any x.size x _ W (Nat.le_refl _) hs (hst W hE)⟩
    · refine memo_plain rfl fun W hW hE ρ args ha => ?_
      obtain ⟨v, rfl, hv⟩ := args_one ha
      rw [hrow hv]
      exact ⟨.int .i64 x.size, fun _ => .atom .f64 5, rsize_any x.size x _ W (Nat.le_refl _) hs (hst W hE)⟩
    · refine memo_plain rfl fun W hW hE ρ args ha => ?_
      obtain ⟨v, rfl, hv⟩ := args_one ha
      rw [hrow hv]
      exact ⟨.int .i64 (tyMay x), fun _ => .int _ _, tymay_any x _ W hs (hst W hE)⟩
    · refine memo_plain rfl fun W hW hE ρ args ha => ?_
      obtain ⟨v, rfl, hv⟩ := args_one ha
      rw [hrow hv]
      exact ⟨.int .i64 (tyMay x), fun _ => .int _ _, rtymay_any x _ W hs (hst W hE)⟩
    · refine memo_plain rfl fun W hW hE ρ args ha => ?_
      obtain ⟨v, v2, rfl, hv, hv2⟩ := args_two ha
      rw [hrow hv, hrow hv2]
      have := tysame_any x.size x x _ _ W (Nat.le_refl _) hs (hst W hE) (hst W hE)
      rw [Ty.same_refl] at this
      exact ⟨.bool true, fun _ => .bool true, this⟩
    · refine memo_plain (show okM ⟨_, [.one fv], _, _⟩ = true by rcases hfv with rfl | rfl <;> rfl) fun W hW hE ρ args ha => ?_
      obtain ⟨v, rfl, hv⟩ := args_one ha
      rw [hnum hv]
      exact ⟨.int .i64 (takesZ z), fun _ => .int _ _, (takes_any z W).mono fun e w' h => ⟨h.1, h.2 ▸ Below.refl _ _⟩⟩
    · refine memo_plain (show okM ⟨_, [.one fv], _, _⟩ = true by rcases hfv with rfl | rfl <;> rfl) fun W hW hE ρ args ha => ?_
      obtain ⟨v, rfl, hv⟩ := args_one ha
      rw [hnum hv]
      exact ⟨.int .i64 (takesZ z), fun _ => .int _ _, rtakes_any z W⟩
  have hlaw : MemoOk Tryz.prog tabs (prLaw fv) := tellsM (goodWith (orc_of (by omega) (by omega) hg hq ht)) bldOk (by kernel_rfl) (by kernel_rfl) hm h
  refine hlaw.law hT (Below.refl _ _) (ρ := fun _ => none) ⟨rfl, fun j hj hj' => ?_⟩
  have : j = 0 ∨ j = 1 := by
    have : j < 2 := hj'
    omega
  rcases this with rfl | rfl
  · exact hnum2 _
  · exact VR.mkAgg ⟨rfl, fun i hi hi' => by
      have : i < 5 := hi'
      have : i = 0 ∨ i = 1 ∨ i = 2 ∨ i = 3 ∨ i = 4 := by omega
      rcases this with rfl | rfl | rfl | rfl | rfl
      · exact .atom .f64 0
      · exact .atom .f64 1
      · exact .atom .f64 2
      · exact .atom .f64 3
      · exact .atom .f64 4⟩
theorem prTakes_eq : ∀ i, i < 18 → takesZ (Int.ofNat (i + 1)) = prTakes i := by decide
theorem inferPrims_any (x : Ty) (z : Int) (us : List Value) (w : World) (hT : Fast.StandT tabs w) (hs : x.size ≤ 1048576) (hus : Rds w w.heap.size us x.d) :
    Calls Tryz.prog 4 #[.int .i64 z, .agg us.toArray] w fun e w' => e = .returned (.bool true) ∧ Below w.heap.size w w' := by
  have hc := hus
  obtain ⟨v6, rfl, h6, -⟩ := Ty.cells hc
  obtain ⟨sa, m, rfl⟩ := h6.slice_inv
  have P := prims_of x z x.kind x.n x.v x.c sa _ m w hT hs hus
  by_cases hbig : (1000 : Int) < x.size
  · exact P true (decide (300 < (x.size : Int))) (decide (300 < (x.size : Int) + 1)) (decide_eq_true hbig).symm rfl rfl prZ (.inl rfl) (run_big ..)
  have hg := (decide_eq_false hbig).symm
  by_cases h0 : takesZ z = 0
  · refine P false (decide (300 < (x.size : Int))) (decide (300 < (x.size : Int) + 1)) hg rfl rfl prZ (.inl rfl) ?_
    rw [h0]
    exact run_none ..
  have hz : 1 ≤ z ∧ z ≤ 18 := by
    unfold takesZ at h0
    split at h0
    · exact absurd rfl h0
    · omega
  obtain ⟨i, hi, rfl⟩ : ∃ i : Nat, i < 18 ∧ z = Int.ofNat (i + 1) := ⟨(z - 1).toNat, by omega, by simp only [Int.ofNat_eq_natCast]; omega⟩
  have one : ∀ {inst : Atoms} {j : Int}, @prAll inst j = true → @prRun inst (.int .i64 (Int.ofNat (i + 1))) (takesZ (Int.ofNat (i + 1))) j = true := fun h => by
    rw [prTakes_eq i hi]
    exact List.all_eq_true.1 h i (List.mem_range.2 hi)
  unfold tyMay at P
  by_cases h1 : 300 < x.size
  · rw [if_pos h1] at P
    exact P false true true hg (decide_eq_true (by omega)).symm (decide_eq_true (by omega)).symm _ (.inr rfl) (one (runs_long ..))
  · rw [if_neg h1] at P
    have hq := (decide_eq_false (show ¬ (300 < (x.size : Int)) by omega)).symm
    by_cases h2 : 300 < (x.size : Int) + 1
    · cases hk : x.ok with
      | true => rw [hk] at P; exact P false false true hg hq (decide_eq_true h2).symm _ (.inr rfl) (one (runs_edge ..))
      | false => rw [hk] at P; exact P false false true hg hq (decide_eq_true h2).symm _ (.inr rfl) (one (runs_arg2 ..))
    · cases hk : x.ok with
      | true => rw [hk] at P; exact P false false false hg hq (decide_eq_false h2).symm _ (.inr rfl) (one (runs_small ..))
      | false => rw [hk] at P; exact P false false false hg hq (decide_eq_false h2).symm _ (.inr rfl) (one (runs_arg ..))
end Go.Proofs.YtpndkjjkdeingaaGreatDoor
