/- A verified evaluator, part G: append; literals. Of no program. -/
import Derived.Test.YthnmadbfebjpkaaGreatDoorSimF
import Derived.Laws.AppendOwn
import Derived.Laws.Tables
namespace Go.Proofs.YthnmadbfebjpkaaGreatDoor.Sim
open Go Go.RowKit

/-- lists of values that are one -/
def LR (ρ : Ren) (l l' : List Value) : Prop := l.length = l'.length ∧ ∀ (j : Nat) (v v' : Value), l[j]? = some v → l'[j]? = some v' → VR ρ v v'
theorem LR.nil (ρ : Ren) : LR ρ [] [] := ⟨rfl, fun j v v' h => by simp at h⟩
theorem LR.cons {ρ : Ren} {v v' : Value} {l l' : List Value} (h : VR ρ v v') (hl : LR ρ l l') : LR ρ (v :: l) (v' :: l') :=
  ⟨by simp [hl.1], fun j x x' h1 h2 => by
    cases j with
    | zero => simp at h1 h2; subst h1 h2; exact h
    | succ j => exact hl.2 j x x' (by simpa using h1) (by simpa using h2)⟩
theorem LR.mono {ρ ρ' : Ren} (hle : ρ.le ρ') {l l' : List Value} (h : LR ρ l l') : LR ρ' l l' := ⟨h.1, fun j v v' h1 h2 => (h.2 j v v' h1 h2).mono hle⟩
theorem LR.append {ρ : Ren} {l l' m m' : List Value} (h : LR ρ l l') (h' : LR ρ m m') : LR ρ (l ++ m) (l' ++ m') := by
  refine ⟨by simp [h.1, h'.1], fun j v v' h1 h2 => ?_⟩
  rw [List.getElem?_append] at h1 h2
  rw [← h.1] at h2
  split at h1
  · rename_i hj; rw [if_pos hj] at h2; exact h.2 j v v' h1 h2
  · rename_i hj; rw [if_neg hj] at h2; exact h'.2 _ v v' h1 h2
theorem LR.take {ρ : Ren} {l l' : List Value} (h : LR ρ l l') (k : Nat) : LR ρ (l.take k) (l'.take k) :=
  ⟨by simp [h.1], fun j v v' h1 h2 => by
    rw [List.getElem?_take] at h1 h2
    split at h1
    · rename_i hj; rw [if_pos hj] at h2; exact h.2 j v v' h1 h2
    · cases h1⟩
theorem LR.drop {ρ : Ren} {l l' : List Value} (h : LR ρ l l') (k : Nat) : LR ρ (l.drop k) (l'.drop k) :=
  ⟨by simp [h.1], fun j v v' h1 h2 => by rw [List.getElem?_drop] at h1 h2; exact h.2 _ v v' h1 h2⟩
theorem AR.toLR {ρ : Ren} {c c' : Array Value} (h : AR ρ c c') : LR ρ c.toList c'.toList := h.list
theorem LR.toAR {ρ : Ren} {l l' : List Value} (h : LR ρ l l') : AR ρ l.toArray l'.toArray :=
  AR.of? (by simpa using h.1) fun j v v' h1 h2 => h.2 j v v' (by simpa using h1) (by simpa using h2)
theorem LR.at {ρ : Ren} {l l' : List Value} (h : LR ρ l l') {j : Nat} {v : Value} (hv : l[j]? = some v) : ∃ v', l'[j]? = some v' ∧ VR ρ v v' := by
  have hj : j < l.length := (List.getElem?_eq_some_iff.1 hv).1
  exact ⟨_, List.getElem?_eq_getElem (h.1 ▸ hj), h.2 j _ _ hv (List.getElem?_eq_getElem (h.1 ▸ hj))⟩

/-- the first k of a list -/
def takeA : Nat → List Value → Option (List Value)
  | 0, _ => some []
  | _ + 1, [] => none
  | k + 1, v :: l => match takeA k l with
    | some r => some (v :: r)
    | none => none
def dropA : Nat → List Value → List Value
  | 0, l => l
  | _ + 1, [] => []
  | k + 1, _ :: l => dropA k l
theorem takeA_spec : ∀ (k : Nat) (l r : List Value), takeA k l = some r → r.length = k ∧ ∀ (j : Nat) (v : Value), r[j]? = some v → l[j]? = some v
  | 0, l, r, h => by
    simp only [takeA] at h
    injection h with h; subst h
    exact ⟨rfl, fun j v hv => by simp at hv⟩
  | k + 1, [], r, h => by cases h
  | k + 1, v :: l, r, h => by
    simp only [takeA] at h
    cases ht : takeA k l with
    | none => rw [ht] at h; cases h
    | some q =>
      rw [ht] at h
      injection h with h; subst h
      obtain ⟨h1, h2⟩ := takeA_spec k l q ht
      refine ⟨by simp [h1], fun j x hx => ?_⟩
      cases j with
      | zero => simpa using hx
      | succ j => simpa using h2 j x (by simpa using hx)
theorem dropA_spec : ∀ (k : Nat) (l : List Value) (j : Nat), (dropA k l)[j]? = l[k + j]?
  | 0, l, j => by simp [dropA]
  | k + 1, [], j => by simp [dropA]
  | k + 1, _ :: l, j => by
    rw [dropA, dropA_spec k l j, show k + 1 + j = (k + j) + 1 by omega]
    simp
/-- cells, one behind the other -/
def cellsA (A : AW) (b o k : Nat) : Option (List Value) := match A.heap.get b with
  | some ⟨.cells c _ _, _, _⟩ => takeA k (dropA o c.toList)
  | _ => none
def oneB : Value → Bool
  | .agg _ => false
  | .tuple _ => false
  | _ => true
theorem oneB_rel {ρ : Ren} {v v' : Value} (h : VR ρ v v') (hv : oneB v = true) : v'.oneCell' = true := by
  cases h <;> first | rfl | cases hv

section
variable {P : Program} {B : Nat} {w0 : Base} {ρ : Ren} {A : AW} {w : World}
theorem cellsA_at {b o k : Nat} {l : List Value} (h : cellsA A b o k = some l) : l.length = k ∧ ∀ (j : Nat) (v : Value), l[j]? = some v → A.cell? ⟨b, o + j, none⟩ = some v := by
  unfold cellsA at h
  split at h
  · rename_i c e f fam ro hb
    obtain ⟨h1, h2⟩ := takeA_spec _ _ _ h
    refine ⟨h1, fun j v hv => ?_⟩
    have := h2 j v hv
    rw [dropA_spec, Array.getElem?_toList] at this
    simp only [AW.cell?, hb, Option.isSome_none, cond_false]
    exact this
  · cases h
theorem cellsA_len (k o : Nat) (l : List Value) (b : Nat) (h : cellsA A b o k = some l) : l.length = k := (cellsA_at h).1
theorem SR.cellsL (h : SR P B w0 ρ A w) {b : Nat} {i : Info} (hi : ρ b = some i) : ∀ (l : List Value) (o : Nat), (∀ (j : Nat) (v : Value), l[j]? = some v → A.cell? ⟨b, o + j, none⟩ = some v) →
    ∃ l', LR ρ l l' ∧ ∀ (j : Nat) (u : Value), l'[j]? = some u → w.cell? ⟨i.g, o + j, none⟩ = some u
  | [], o, _ => ⟨[], LR.nil ρ, fun j u hu => by simp at hu⟩
  | v :: l, o, hl => by
    have h0 := hl 0 v rfl
    rw [Nat.add_zero] at h0
    obtain ⟨v', h1, h2⟩ := h.cell hi h0
    obtain ⟨l', h3, h4⟩ := SR.cellsL h hi l (o + 1) (fun j u hu => by
      have := hl (j + 1) u (by simpa using hu)
      rw [show o + (j + 1) = o + 1 + j by omega] at this
      exact this)
    refine ⟨v' :: l', LR.cons h2 h3, fun j u hu => ?_⟩
    cases j with
    | zero => simp at hu; subst hu; exact h1
    | succ j =>
      have := h4 j u (by simpa using hu)
      rw [show o + (j + 1) = o + 1 + j by omega]
      exact this
theorem SR.cells (h : SR P B w0 ρ A w) {b : Nat} {i : Info} (hi : ρ b = some i) (k o : Nat) (l : List Value) (hl : cellsA A b o k = some l) :
    ∃ l', LR ρ l l' ∧ ∀ (j : Nat) (u : Value), l'[j]? = some u → w.cell? ⟨i.g, o + j, none⟩ = some u := h.cellsL hi l o (cellsA_at hl).2
/-- a grown block -/
theorem SR.grown (h : SR P B w0 ρ A w) (hroom : A.room = true) {e : TypeId} {ti : TypeInfo} (hti : P.info? e = some ti) {l l' rest : List Value} (hl : LR ρ l l') (cap : Nat) (hcs : (l'.toArray ++ rest.toArray).size = cap * ti.size)
    {g : Nat} {w' : World} (hos : w'.os = w.os) (htp : w'.tape = w.tape) (hout : w'.output = w.output) (hsz : w.heap.size ≤ w'.heap.size) (hB : B ≤ g)
    (hg : w'.heap[g]? = some (.cells (l'.toArray ++ rest.toArray) e (0, 0))) (hk : ∀ k, k ≠ g → k < w.heap.size → w'.heap[k]? = w.heap[k]?)
    (hap : ∀ b y j, A.heap.get b = some y → ρ b = some j → j.g ≠ g) (hmk : ∀ r, r ∈ w0.mks → r ≠ g) :
    SR P B w0 (ρ.more A.next ⟨g, true, false, ti.size, cap * ti.size⟩) (A.add ⟨.cells l.toArray e (0, 0), true, false⟩) w' := by
  have hle := Ren.le_more (i := ⟨g, true, false, ti.size, cap * ti.size⟩) h.fresh
  refine h.new hroom hos htp hout hsz hB hg hk hap hmk (.loose rfl rfl hcs.symm ?_ ?_ rfl ⟨ti, hti, rfl⟩)
  · have := hl.1
    simp only [Array.size_append, List.size_toArray]
    omega
  · intro j v hv
    have hv2 : l[j]? = some v := by simpa using hv
    obtain ⟨v', h1, h2⟩ := hl.at hv2
    have hj : j < l'.length := (List.getElem?_eq_some_iff.1 h1).1
    exact ⟨v', by rw [Array.getElem?_append_left (by simpa using hj)]; simpa using h1, h2.mono hle⟩
end
end Go.Proofs.YthnmadbfebjpkaaGreatDoor.Sim
