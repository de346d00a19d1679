/- The program's tie, part D: the places that they laid are apart: by numbers that tell them apart. Conditions: none. -/
import Derived.Test.YtfeppmhcpfccfaaGreatDoorTiA
set_option linter.unusedVariables false
set_option linter.unusedSimpArgs false
namespace Go.Proofs.YtfeppmhcpfccfaaGreatDoor
open Go
set_option maxRecDepth 100000
/-- a place's number -/
def tiKey : MemPlace → Nat
  | .cell b off => 2 * (b * 4294967296 + off)
  | .map b => 2 * b + 1
noncomputable def tiNum (z : Nat) (k : Nat → Bool) : Bool := Nat.rec (motive := fun _ => Bool) (k 0) (fun m _ => k m) (Nat.succ z)
noncomputable def tiKeys (l : List MemPlace) : (List Nat → Bool) → Bool := List.rec (motive := fun _ => (List Nat → Bool) → Bool) (fun k => k []) (fun p _ ih k => tiNum (tiKey p) fun a => ih fun t => k (a :: t)) l
noncomputable def tiIn (a : Nat) (l : List Nat) : Bool := List.rec (motive := fun _ => Bool) true (fun b _ ih => Bool.rec (motive := fun _ => Bool) ih false (Nat.beq a b)) l
noncomputable def tiApart (l : List Nat) : Bool := List.rec (motive := fun _ => Bool) true (fun a t ih => Bool.rec (motive := fun _ => Bool) false ih (tiIn a t)) l
theorem tiKeys_eq : ∀ (l : List MemPlace) (k : List Nat → Bool), tiKeys l k = k (l.map tiKey)
  | [], _ => rfl
  | p :: l, k => tiKeys_eq l fun t => k (tiKey p :: t)
theorem tiIn_spec (a : Nat) : ∀ l : List Nat, tiIn a l = true → a ∉ l
  | [], _ => by simp
  | b :: l, h => by
    have h' : Bool.rec (motive := fun _ => Bool) (tiIn a l) false (Nat.beq a b) = true := h
    cases hq : Nat.beq a b with
    | true => rw [hq] at h'; cases h'
    | false =>
      rw [hq] at h'
      have hne : a ≠ b := fun e => by rw [e, Nat.beq_refl] at hq; cases hq
      intro hm
      rcases List.mem_cons.1 hm with e | e
      · exact hne e
      · exact tiIn_spec a l h' e
theorem tiApart_spec : ∀ l : List Nat, tiApart l = true → l.Nodup
  | [], _ => List.nodup_nil
  | a :: l, h => by
    have h' : Bool.rec (motive := fun _ => Bool) false (tiApart l) (tiIn a l) = true := h
    cases hq : tiIn a l with
    | false => rw [hq] at h'; cases h'
    | true =>
      rw [hq] at h'
      exact List.nodup_cons.2 ⟨tiIn_spec a l hq, tiApart_spec l h'⟩
theorem tiNodup (l : List MemPlace) (h : tiKeys l tiApart = true) : l.Nodup := by
  rw [tiKeys_eq] at h
  have := tiApart_spec _ h
  rw [List.nodup_iff_pairwise_ne, List.pairwise_map] at this
  exact List.nodup_iff_pairwise_ne.2 (this.imp fun h e => h (by rw [e]))
theorem ti_nodup0 (os : Os) (tape : Tape) : (DataW.laidRun Tryz.prog (varsWorld Tryz.prog 400 (varsId Tryz.prog) os tape).memory 8 (tieL.map (·.1))).map (fun x => tiKeys x.2 tiApart) = some true := by kernel_rfl
theorem ti_nodup (os : Os) (tape : Tape) : (DataW.laidRun Tryz.prog (varsWorld Tryz.prog 400 (varsId Tryz.prog) os tape).memory 8 (tieL.map (·.1))).map (fun x => decide x.2.Nodup) = some true := by
  have h := ti_nodup0 os tape
  revert h
  generalize DataW.laidRun Tryz.prog (varsWorld Tryz.prog 400 (varsId Tryz.prog) os tape).memory 8 (tieL.map (·.1)) = y
  intro h
  cases y with
  | none => cases h
  | some y =>
    injection h with h
    exact congrArg some (decide_eq_true (tiNodup _ h))
end Go.Proofs.YtfeppmhcpfccfaaGreatDoor
