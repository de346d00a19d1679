/- A type that the law is handed: what it reads as; below the bound it has at most so many nodes. -/
import Derived.Test.YtpndkjjkdeingaaGreatDoorTyB
import Derived.Test.YtpndkjjkdeingaaGreatDoorRows
import Derived.ProofKit
import Derived.OpenShut
set_option linter.unusedVariables false
set_option linter.unusedSimpArgs false
namespace Go.Proofs.YtpndkjjkdeingaaGreatDoor
open Go.RowKit Go.ChangeShapes Go.WideShapes

theorem wts_append' : ∀ (a b : List D), D.wts (a ++ b) = D.wts a + D.wts b
  | [], b => by simp [D.wts]
  | x :: a, b => by
    simp only [List.cons_append, D.wts, wts_append' a b]
    omega
mutual
theorem ty_wts : ∀ t : Ty, t.size ≤ D.wts t.d
  | .mk kind n v c l => by
    have := tys_wts l
    simp only [Ty.size, Ty.d, D.wts, D.wt]; omega
theorem tys_wts : ∀ l : List Ty, Ty.size.sizes l ≤ D.wts (Ty.dl l)
  | [] => by simp [Ty.size.sizes]
  | t :: r => by
    have h1 := ty_wts t
    have h2 := tys_wts r
    simp only [Ty.size.sizes, Ty.dl, wts_append']; omega
end
theorem agg_of {v : Value} (h : v.cells.toList.length ≠ 1) : v = .agg v.cells.toList.toArray := by
  cases v <;> simp [Value.cells] at h ⊢
def typeTypes : List TypeId := [39, 5, 3, 36, 34, 37]
theorem typePlain : plainAll Tryz.prog typeTypes = true := by kernel_rfl
theorem open_type {H : Type} {enc : TypeId × Value → H} {W : World} {base : Nat} {spare : Nat → Bool} {held : Bool} {v : Value} {d : DataW H} {p : List MemPlace} (h : DataW.Trod enc Tryz.prog W base spare held 39 v d p)
    (hlt : ∀ x ∈ p, x.block < W.heap.size) (hk : Rows.uptoBulk d ≤ 1048576) : ∃ (x : Ty) (us : List Value), v = .agg us.toArray ∧ x.size ≤ 1048576 ∧ Rds W W.heap.size us x.d := by
  obtain ⟨fuel, hf⟩ := h
  obtain ⟨ds, hr, hh, hw⟩ := rd_of_trod typeTypes typePlain fuel 39 v.cells.toList (d, p) (.head _) hf hlt
  obtain ⟨x, rfl⟩ := has_Ty hh
  have hl := hr.1
  rw [x.d_len] at hl
  exact ⟨x, v.cells.toList, agg_of (by omega), Nat.le_trans (ty_wts x) (Nat.le_trans hw hk), hr⟩
end Go.Proofs.YtpndkjjkdeingaaGreatDoor
