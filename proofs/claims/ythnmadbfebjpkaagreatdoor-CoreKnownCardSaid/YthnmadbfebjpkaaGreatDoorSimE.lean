/- A verified evaluator, part E: operations over values that name no block. Of no program. -/
import Derived.Test.YthnmadbfebjpkaaGreatDoorSimD
namespace Go.Proofs.YthnmadbfebjpkaaGreatDoor.Sim
open Go Go.RowKit

theorem leafFree_eq {ρ : Ren} {v v' : Value} (h : leafFree v = true) (hv : VR ρ v v') : v' = v := by
  cases hv with
  | func fn hp hf hfe hc hce =>
    simp only [leafFree, Bool.and_eq_true, Array.isEmpty_iff] at h
    obtain ⟨⟨_, rfl⟩, rfl⟩ := h
    rw [Array.eq_empty_of_size_eq_zero hf.symm, Array.eq_empty_of_size_eq_zero hc.symm]
  | _ => first | rfl | cases h
theorem all_eq {ρ : Ren} {c c' : Array Value} (h : c.all leafFree = true) (hc : AR ρ c c') : c' = c := by
  refine Array.ext hc.1.symm fun j h1 h2 => ?_
  exact leafFree_eq (Array.all_eq_true.1 h j h2) (hc.2 j h2 h1)
theorem freeD_eq {ρ : Ren} : ∀ (m : Nat) {v v' : Value}, freeD m v = true → VR ρ v v' → v' = v
  | 0, _, _, h, hv => leafFree_eq h hv
  | m + 1, v, v', h, hv => by
    cases v with
    | agg c => cases hv with
      | agg h1 h2 => rw [Array.ext h1.symm fun j i1 i2 => freeD_eq m (Array.all_eq_true.1 h j i2) (h2 j i2 i1)]
    | tuple c => cases hv with
      | tuple h1 h2 => rw [Array.ext h1.symm fun j i1 i2 => freeD_eq m (Array.all_eq_true.1 h j i2) (h2 j i2 i1)]
    | iface t v => cases hv with | iface t hv => rw [freeD_eq m h hv]
    | _ => exact leafFree_eq h hv
theorem free_eq {ρ : Ren} {v v' : Value} (h : free v = true) (hv : VR ρ v v') : v' = v := freeD_eq 4 h hv

/-- the value of an operand -/
def ev (t : Array Value) (x : Operand) : Value := Act.eval ⟨t, []⟩ x
def okX : Operand → Bool
  | .tmp _ => true
  | .const v => free v
  | .global _ => true
  | .func _ => true
/-- only these variables are named -/
def glX (gl : Nat → Bool) : Operand → Bool
  | .global g => gl g
  | _ => true
def GlR (gl : Nat → Bool) (ρ : Ren) : Prop := ∀ g, gl g = true → ∃ i, ρ g = some i ∧ i.g = g
theorem glo_rel {gl : Nat → Bool} {ρ : Ren} (hG : GlR gl ρ) {g : Nat} (h : gl g = true) : VR ρ (.pointer (some ⟨g, 0, none⟩)) (.pointer (some ⟨g, 0, none⟩)) := by
  obtain ⟨i, h1, h2⟩ := hG g h
  have := VR.ptr (o := 0) h1
  rw [h2] at this
  exact this
theorem ev_rel {ρ : Ren} {t t' : Array Value} (h : AR ρ t t') {gl : Nat → Bool} (hG : GlR gl ρ) {x : Operand} (hx : okX x = true) (hg : glX gl x = true) : VR ρ (ev t x) (ev t' x) := by
  cases x with
  | tmp i =>
    show VR ρ (t.getD i undef) (t'.getD i undef)
    rcases h.get? i with ⟨h1, h2⟩ | ⟨v, v', h1, h2, h3⟩
    · rw [Array.getD_eq_getD_getElem?, Array.getD_eq_getD_getElem?, h1, h2]
      exact VR.mkTuple (AR.empty ρ)
    · rw [Array.getD_eq_getD_getElem?, Array.getD_eq_getD_getElem?, h1, h2]
      exact h3
  | const v => exact free_rel ρ hx
  | global g => exact glo_rel hG hg
  | func f => exact VR.mkFunc _ rfl (AR.empty ρ) (AR.empty ρ)
end Go.Proofs.YthnmadbfebjpkaaGreatDoor.Sim
