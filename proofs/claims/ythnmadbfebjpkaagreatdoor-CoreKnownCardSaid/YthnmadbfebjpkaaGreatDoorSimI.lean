/- A verified evaluator, part I: each operation, but those on maps. Of no program. -/
import Derived.Test.YthnmadbfebjpkaaGreatDoorSimH
namespace Go.Proofs.YthnmadbfebjpkaaGreatDoor.Sim
open Go Go.RowKit

/-- what the evaluator takes of a program -/
structure Good (P : Program) : Prop where
  zeros : Zeros P
  mixed : P.follows .mixedOrders = true
  names : ∀ (f : Nat) (fn : Func), P.funcs[f]? = some fn → (fn.name == "runtime.NumGoroutine") = false

section
variable {P : Program} {B : Nat} {w0 : Base} {ρ : Ren} {A : AW} {w : World}
theorem appendA_sound (h : SR P B w0 ρ A w) (ty : TypeId) {ts : Array TypeId} {s s' x x' : Value} (hs : VR ρ s s') (hx : VR ρ x x') {v : Value} {A' : AW} (ha : appendA P ts s x A = some (v, A')) :
    ∃ ρ' v' w', (Builtin.append_ ts ty #[s', x']).run P w = .ok v' w' ∧ ρ.le ρ' ∧ SR P B w0 ρ' A' w' ∧ VR ρ' v v' := by
  unfold appendA at ha
  split at ha
  rotate_left
  · cases ha
  rename_i t u htu
  have hts : ts = #[t, u] := by rw [← Array.toArray_toList (xs := ts), htu]
  subst hts
  cases he : Nat.beq t u with
  | false => rw [he] at ha; cases ha
  | true =>
    rw [he, cond_true] at ha
    have htu' : t = u := Tr.beq_iff.1 he
    subst htu'
    split at ha
    rotate_left
    · cases ha
    rename_i e sb n c xb m xc ht
    cases hti : P.info? e with
    | none => rw [hti] at ha; cases ha
    | some i =>
      rw [hti] at ha
      dsimp only at ha
      cases hz : i.zero with
      | none => rw [hz] at ha; cases ha
      | some z =>
        rw [hz] at ha
        dsimp only at ha
        cases hm : Nat.beq m 0 with
        | true =>
          rw [hm, cond_true] at ha
          have hm0 : m = 0 := Tr.beq_iff.1 hm
          subst hm0
          cases hn : Nat.ble n c with
          | false => rw [hn] at ha; cases ha
          | true =>
            rw [hn, cond_true] at ha
            have hnc : n ≤ c := Nat.le_of_ble_eq_true hn
            injection ha with ha; injection ha with h1 h2; subst h1 h2
            have hfc : ∀ (a : Option Addr) (k : Nat), (Builtin.firstCells i.size 0 (.slice a 0 k)).run P w = .ok #[] w := by
              intro a k
              cases a <;> simp [Builtin.firstCells, loadCells, loadCellsFrom]
            refine ⟨ρ, s', w, ?_, Ren.le_refl _, h, hs⟩
            have hxs : ∃ (xb' : Option Addr) (k : Nat), x' = .slice xb' 0 k := by
              cases hx with
              | nilSlice => exact ⟨_, _, rfl⟩
              | slice => exact ⟨_, _, rfl⟩
              | edge => exact ⟨_, _, rfl⟩
              | clip => exact ⟨_, _, rfl⟩
            obtain ⟨xb', k, rfl⟩ := hxs
            cases hs with
            | nilSlice n c => simp [Builtin.append_, run_underlying ht, sizeOf, typeInfo, hti, Builtin.lenOf, hnc, hfc]
            | slice hi hc =>
              rename_i b o c' j
              have hcc : n ≤ c' := by rcases hc with ⟨_, h1⟩ | ⟨_, h1, _⟩ <;> omega
              simp [Builtin.append_, run_underlying ht, sizeOf, typeInfo, hti, Builtin.lenOf, hcc, hfc, storeCells]
            | edge hi hl he ho hc => simp [Builtin.append_, run_underlying ht, sizeOf, typeInfo, hti, Builtin.lenOf, hfc, storeCells]
            | clip hi => simp [Builtin.append_, run_underlying ht, sizeOf, typeInfo, hti, Builtin.lenOf, hfc, storeCells]
        | false =>
          rw [hm, cond_false] at ha
          have hm0 : m ≠ 0 := fun hh => by rw [Tr.beq_iff.2 hh] at hm; cases hm
          cases hq : Nat.beq z.cells.size i.size && Nat.blt 0 i.size && Nat.ble ((n + m) * i.bytes) 1099511627776 && Nat.ble (n + m) 1099511627776 with
          | false => rw [hq] at ha; cases ha
          | true =>
            rw [hq, cond_true] at ha
            simp only [Bool.and_eq_true] at hq
            obtain ⟨⟨⟨q1, q2⟩, q3⟩, q4⟩ := hq
            split at ha
            rotate_left
            · cases ha
            rename_i b o
            cases hc : cellsA A b o (m * i.size) with
            | none => rw [hc] at ha; cases ha
            | some news =>
              rw [hc] at ha
              dsimp only at ha
              cases hone : news.all oneB with
              | false => rw [hone] at ha; cases ha
              | true =>
                rw [hone, cond_true] at ha
                cases hx with
                | edge => exact absurd rfl hm0
                | slice hi hcc =>
                  rename_i c2 j
                  obtain ⟨news', n1, n2⟩ := h.cells hi _ _ _ hc
                  exact appendB_sound h ht hti hz (Tr.beq_iff.1 q1) (Nat.le_of_ble_eq_true q2) hs rfl n1 (cellsA_len _ _ _ _ hc) hone hm0 (fun j u hu => by rw [add_none]; exact n2 j u hu) (Nat.le_of_ble_eq_true q3) (Nat.le_of_ble_eq_true q4) ha
end

theorem foldSet_rel {ρ : Ren} : ∀ (l l' : List Value) (k off : Nat) (cs cs' : Array Value), LR ρ l l' → AR ρ cs cs' →
    AR ρ ((l.zipIdx k).foldl (fun cs x => cs.setIfInBounds (off + x.2) x.1) cs) ((l'.zipIdx k).foldl (fun cs x => cs.setIfInBounds (off + x.2) x.1) cs')
  | [], [], _, _, _, _, _, h => h
  | [], _ :: _, _, _, _, _, h, _ => by have := h.1; simp at this
  | _ :: _, [], _, _, _, _, h, _ => by have := h.1; simp at this
  | v :: l, v' :: l', k, off, cs, cs', h, hc => by
    simp only [List.zipIdx_cons, List.foldl_cons]
    exact foldSet_rel l l' (k + 1) off _ _ ⟨by simpa using h.1, fun j x x' h1 h2 => h.2 (j + 1) x x' (by simpa using h1) (by simpa using h2)⟩ (hc.set _ (h.2 0 v v' rfl rfl))
theorem foldArr_eq (c : Array Value) (off : Nat) (cs : Array Value) : c.zipIdx.foldl (fun cs (x : Value × Nat) => cs.setIfInBounds (off + x.2) x.1) cs = (c.toList.zipIdx 0).foldl (fun cs x => cs.setIfInBounds (off + x.2) x.1) cs := by
  rw [← Array.foldl_toList, Array.toList_zipIdx]
/-- parts of a literal that are one -/
def PR (ρ : Ren) : List (Nat × Value) → List (Nat × Value) → Prop
  | [], [] => True
  | (i, v) :: l, (i', v') :: l' => i = i' ∧ VR ρ v v' ∧ PR ρ l l'
  | _, _ => False
theorem fill_rel {ρ : Ren} (place : Nat → Option (Nat × Nat)) : ∀ (l l' : List (Nat × Value)) (cs cs' c : Array Value), PR ρ l l' → AR ρ cs cs' → Instr.fill place cs l = some c → ∃ c', Instr.fill place cs' l' = some c' ∧ AR ρ c c'
  | [], [], cs, cs', c, _, hc, h => by
    simp only [Instr.fill] at h ⊢
    injection h with h; subst h
    exact ⟨cs', rfl, hc⟩
  | [], _ :: _, _, _, _, h, _, _ => h.elim
  | (_, _) :: _, [], _, _, _, h, _, _ => h.elim
  | (i, v) :: l, (i', v') :: l', cs, cs', c, ⟨h1, hv, hl⟩, hc, h => by
    subst h1
    simp only [Instr.fill] at h ⊢
    cases hp : place i with
    | none => rw [hp] at h; cases h
    | some q =>
      obtain ⟨off, size⟩ := q
      rw [hp] at h
      dsimp only at h ⊢
      have hcv := hv.cells
      split at h
      · cases h
      · rename_i hn
        rw [hcv.1, hc.1] at hn
        rw [if_neg hn]
        refine fill_rel place l l' _ _ c hl ?_ h
        have e1 := foldArr_eq v.cells off cs
        have e2 := foldArr_eq v'.cells off cs'
        have := foldSet_rel v.cells.toList v'.cells.toList 0 off cs cs' hcv.toLR hc
        rw [← e1, ← e2] at this
        exact this
theorem built_rel {P : Program} (hz : Zeros P) {ρ : Ren} {t : TypeId} {l l' : List (Nat × Value)} (hl : PR ρ l l') {c : Array Value} (h : P.built t l = some c) : ∃ c', P.built t l' = some c' ∧ AR ρ c c' := by
  unfold Program.built at h ⊢
  cases hi : P.info? t with
  | none => rw [hi] at h; cases h
  | some it =>
    rw [hi] at h
    cases hu : P.underlying t with
    | none => rw [hu] at h; cases h
    | some d =>
      rw [hu] at h
      cases d with
      | array n e =>
        dsimp only at h ⊢
        cases hzz : it.zero with
        | none => rw [hzz] at h; cases h
        | some z =>
          rw [hzz] at h
          cases hie : P.info? e with
          | none => rw [hie] at h; cases h
          | some ie =>
            rw [hie] at h
            dsimp only at h ⊢
            exact fill_rel _ l l' _ _ c hl ((hz t it z hi hzz) ρ).cells h
      | struct fs =>
        dsimp only at h ⊢
        cases hzz : it.zero with
        | none => rw [hzz] at h; cases h
        | some z =>
          rw [hzz] at h
          split at h
          · rename_i z2 places e1 _
            injection e1 with e1; subst e1
            exact fill_rel _ l l' _ _ c hl ((hz t it z hi hzz) ρ).cells h
          · cases h
      | _ => cases h
def partsA (t : Operand → Value) (ps : Array (Nat × Operand)) : List (Nat × Value) := ps.toList.map fun p => (p.1, t p.2)
theorem parts_rel {ρ : Ren} {t t' : Operand → Value} : ∀ (l : List (Nat × Operand)), (∀ p ∈ l, VR ρ (t p.2) (t' p.2)) → PR ρ (l.map fun p => (p.1, t p.2)) (l.map fun p => (p.1, t' p.2))
  | [], _ => trivial
  | p :: l, hp => ⟨rfl, hp p List.mem_cons_self, parts_rel l fun q hq => hp q (List.mem_cons_of_mem _ hq)⟩
end Go.Proofs.YthnmadbfebjpkaaGreatDoor.Sim
