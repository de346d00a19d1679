/- A verified evaluator, part I: each operation, but those on maps. Of no program. -/
import Derived.Test.YtfeppmhcpfccfaaGreatDoorSimH
import Derived.MapKept
import Derived.Carry
import Derived.Laws.MakeOwn
set_option linter.unusedVariables false
set_option linter.unusedSimpArgs false
namespace Go.Proofs.YtfeppmhcpfccfaaGreatDoor.Sim
open Go Go.RowKit

/-- what the evaluator takes of a program -/
structure Good (P : Program) : Prop where
  zeros : Zeros P
  mixed : P.follows .mixedOrders = true
  names : ∀ (f : Nat) (fn : Func), P.funcs[f]? = some fn → (fn.name == "runtime.NumGoroutine") = false

section
variable {P : Program} {B : Nat} {w0 : Base} {ρ : Ren} {A : AW} {w : World}
theorem appendA_sound (hZ : Zeros P) (h : SR P B w0 ρ A w) (ty : TypeId) {ts : Array TypeId} {s s' x x' : Value} (hs : VR ρ s s') (hx : VR ρ x x') {v : Value} {A' : AW} (ha : appendA P ts s x A = some (v, A')) :
    ∃ ρ' v' w', (Builtin.append_ ts ty #[s', x']).run P w = .ok v' w' ∧ ρ.le ρ' ∧ SR P B w0 ρ' A' w' ∧ VR ρ' v v' := by
  unfold appendA at ha
  split at ha
  rotate_left
  · cases ha
  rename_i t u htu
  have hts : ts = #[t, u] := by rw [← Array.toArray_toList (xs := ts), htu]
  subst hts
  cases he : Nat.beq t u with
  | false =>
    rw [he, cond_false] at ha
    split at ha
    rotate_left
    · rename_i e uk n c k q ht hu
      cases hti : P.info? e with
      | none => rw [hti] at ha; cases ha
      | some i =>
        rw [hti] at ha
        dsimp only at ha
        cases hz : i.zero with
        | none => rw [hz] at ha; cases ha
        | some z =>
          rw [hz] at ha
          dsimp only at ha
          cases hq : (Nat.beq n 0 && Nat.beq c 0 && Nat.beq z.cells.size i.size && Nat.blt 0 i.size && decide (0 < q) && decide (q ≤ 512) && Nat.ble (q.toNat * i.bytes) 1099511627776) with
          | false => rw [hq] at ha; cases ha
          | true =>
            rw [hq, cond_true] at ha
            simp only [Bool.and_eq_true, decide_eq_true_eq] at hq
            obtain ⟨⟨⟨⟨⟨⟨q0, q1⟩, q2⟩, q3⟩, q4⟩, q5⟩, q6⟩ := hq
            have hn0 : n = 0 := Tr.beq_iff.1 q0
            have hc0 : c = 0 := Tr.beq_iff.1 q1
            subst hn0 hc0
            have hxq : x' = .int k q := by cases hx; rfl
            have hss : s' = .slice none 0 0 := by cases hs; rfl
            subst hxq hss
            obtain ⟨m, rfl⟩ : ∃ m : Nat, q = (m : Int) := ⟨q.toNat, by omega⟩
            rw [Int.toNat_natCast] at ha q6
            have hsz : z.cells.size = i.size := Tr.beq_iff.1 q2
            have hpos : 0 < i.size := Nat.le_of_ble_eq_true q3
            have hzr : AR ρ z.cells z.cells := ((hZ e i z hti hz) ρ).cells
            have hcells : AR ρ (madeCells z.cells (m * i.size)) (madeCells z.cells (m * i.size)) := by
              unfold madeCells
              refine AR.map _ fun x => ?_
              by_cases hx : x % z.cells.size < z.cells.size
              · rw [getElem!_pos z.cells _ hx]
                exact hzr.2 _ hx hx
              · rw [getElem!_neg z.cells _ hx]
                exact free_rel _ rfl
            obtain ⟨ρ', v', h1, h2, h3, h4⟩ := h.growEnd hti hsz hpos (l := (madeCells z.cells (m * i.size)).toList) (l' := (madeCells z.cells (m * i.size)).toList) hcells.list (by rw [Array.length_toList, size_madeCells]) (grownCap_ge w m 0 e) ha
            exact ⟨ρ', v', _, by rw [h3]; exact run_append_make w t u ty e i z ht hu hti hz hsz hpos k m (by omega) (by omega) (Nat.le_of_ble_eq_true q6), h1, h2, h4⟩
    · cases ha
    rename_i e sb n c q ht hu
    cases hti : P.info? e with
    | none => rw [hti] at ha; cases ha
    | some i =>
      rw [hti] at ha
      dsimp only at ha
      cases hz : i.zero with
      | none => rw [hz] at ha; cases ha
      | some z =>
        rw [hz] at ha
        dsimp only at ha
        have hxq : x' = .string q := by cases hx; rfl
        subst hxq
        cases hm : Nat.beq q.size 0 with
        | true =>
          rw [hm, cond_true] at ha
          have hm0 : q.size = 0 := Tr.beq_iff.1 hm
          cases hn : Nat.ble n c with
          | false => rw [hn] at ha; cases ha
          | true =>
            rw [hn, cond_true] at ha
            have hnc : n ≤ c := Nat.le_of_ble_eq_true hn
            injection ha with ha; injection ha with h1 h2; subst h1 h2
            have hfc : (Builtin.firstCells i.size 0 (.string q)).run P w = .ok #[] w := by
              have := Lib.run_firstCells_string (P := P) w i.size q
              have e0 : Lib.strCells q = [] := List.eq_nil_of_length_eq_zero (by rw [Lib.strCells_length]; exact hm0)
              rw [hm0, e0] at this
              exact this
            refine ⟨ρ, s', w, ?_, Ren.le_refl _, h, hs⟩
            cases hs with
            | nilSlice n c => simp [Builtin.append_, run_underlying ht, run_underlying hu, sizeOf, typeInfo, hti, Builtin.lenOf, hnc, hm0, hfc]
            | slice hi hc =>
              rename_i b o c' j
              have hcc : n ≤ c' := by rcases hc with ⟨_, h1⟩ | ⟨_, h1, _⟩ <;> omega
              simp [Builtin.append_, run_underlying ht, run_underlying hu, sizeOf, typeInfo, hti, Builtin.lenOf, hcc, hm0, hfc, storeCells]
            | edge hi hl he ho hc => simp [Builtin.append_, run_underlying ht, run_underlying hu, sizeOf, typeInfo, hti, Builtin.lenOf, hm0, hfc, storeCells]
            | clip hi => simp [Builtin.append_, run_underlying ht, run_underlying hu, sizeOf, typeInfo, hti, Builtin.lenOf, hm0, hfc, storeCells]
        | false =>
          rw [hm, cond_false] at ha
          have hm0 : q.size ≠ 0 := fun hh => by rw [Tr.beq_iff.2 hh] at hm; cases hm
          cases hq : Nat.beq i.size 1 && Nat.beq z.cells.size i.size && Nat.ble ((n + q.size) * i.bytes) 1099511627776 && Nat.ble (n + q.size) 1099511627776 with
          | false => rw [hq] at ha; cases ha
          | true =>
            rw [hq, cond_true] at ha
            simp only [Bool.and_eq_true] at hq
            obtain ⟨⟨⟨q0, q1⟩, q3⟩, q4⟩ := hq
            have h1 : i.size = 1 := Tr.beq_iff.1 q0
            have hone : (Lib.strCells q).all oneB = true := by
              rw [List.all_eq_true]
              intro u hu
              simp only [Lib.strCells, List.mem_map] at hu
              obtain ⟨b, _, rfl⟩ := hu
              rfl
            have hl : LR ρ (Lib.strCells q) (Lib.strCells q) := by
              refine ⟨rfl, fun j x x' h1 h2 => ?_⟩
              rw [h1] at h2; injection h2 with h2; subst h2
              have hm := List.mem_of_getElem? h1
              simp only [Lib.strCells, List.mem_map] at hm
              obtain ⟨b, _, rfl⟩ := hm
              exact .int _ _
            exact appendB_sound (ap := fun v => Builtin.append_ #[t, u] ty #[v, .string q]) h hti (Tr.beq_iff.1 q1) (by omega) hs rfl (.str ht hu hti hz h1 q) hl (by rw [Lib.strCells_length, h1, Nat.mul_one]) hone hm0 (Nat.le_of_ble_eq_true q3) (Nat.le_of_ble_eq_true q4) ha
  | true =>
    rw [he, cond_true] at ha
    have htu' : t = u := Tr.beq_iff.1 he
    subst htu'
    split at ha
    rotate_left
    · cases ha
    rename_i e sb n c xb m xc ht
    cases hti : P.info? e with
    | none => rw [hti] at ha; cases ha
    | some i =>
      rw [hti] at ha
      dsimp only at ha
      cases hz : i.zero with
      | none => rw [hz] at ha; cases ha
      | some z =>
        rw [hz] at ha
        dsimp only at ha
        cases hm : Nat.beq m 0 with
        | true =>
          rw [hm, cond_true] at ha
          have hm0 : m = 0 := Tr.beq_iff.1 hm
          subst hm0
          cases hn : Nat.ble n c with
          | false => rw [hn] at ha; cases ha
          | true =>
            rw [hn, cond_true] at ha
            have hnc : n ≤ c := Nat.le_of_ble_eq_true hn
            injection ha with ha; injection ha with h1 h2; subst h1 h2
            have hfc : ∀ (a : Option Addr) (k : Nat), (Builtin.firstCells i.size 0 (.slice a 0 k)).run P w = .ok #[] w := by
              intro a k
              cases a <;> simp [Builtin.firstCells, loadCells, loadCellsFrom]
            refine ⟨ρ, s', w, ?_, Ren.le_refl _, h, hs⟩
            have hxs : ∃ (xb' : Option Addr) (k : Nat), x' = .slice xb' 0 k := by
              cases hx with
              | nilSlice => exact ⟨_, _, rfl⟩
              | slice => exact ⟨_, _, rfl⟩
              | edge => exact ⟨_, _, rfl⟩
              | clip => exact ⟨_, _, rfl⟩
            obtain ⟨xb', k, rfl⟩ := hxs
            cases hs with
            | nilSlice n c => simp [Builtin.append_, run_underlying ht, sizeOf, typeInfo, hti, Builtin.lenOf, hnc, hfc]
            | slice hi hc =>
              rename_i b o c' j
              have hcc : n ≤ c' := by rcases hc with ⟨_, h1⟩ | ⟨_, h1, _⟩ <;> omega
              simp [Builtin.append_, run_underlying ht, sizeOf, typeInfo, hti, Builtin.lenOf, hcc, hfc, storeCells]
            | edge hi hl he ho hc => simp [Builtin.append_, run_underlying ht, sizeOf, typeInfo, hti, Builtin.lenOf, hfc, storeCells]
            | clip hi => simp [Builtin.append_, run_underlying ht, sizeOf, typeInfo, hti, Builtin.lenOf, hfc, storeCells]
        | false =>
          rw [hm, cond_false] at ha
          have hm0 : m ≠ 0 := fun hh => by rw [Tr.beq_iff.2 hh] at hm; cases hm
          cases hq : Nat.beq z.cells.size i.size && Nat.blt 0 i.size && Nat.ble ((n + m) * i.bytes) 1099511627776 && Nat.ble (n + m) 1099511627776 with
          | false => rw [hq] at ha; cases ha
          | true =>
            rw [hq, cond_true] at ha
            simp only [Bool.and_eq_true] at hq
            obtain ⟨⟨⟨q1, q2⟩, q3⟩, q4⟩ := hq
            split at ha
            rotate_left
            · cases ha
            rename_i b o
            cases hc : cellsA A b o (m * i.size) with
            | none => rw [hc] at ha; cases ha
            | some news =>
              rw [hc] at ha
              dsimp only at ha
              cases hone : news.all oneB with
              | false => rw [hone] at ha; cases ha
              | true =>
                rw [hone, cond_true] at ha
                cases hx with
                | edge => exact absurd rfl hm0
                | slice hi hcc =>
                  rename_i c2 j
                  obtain ⟨news', n1, n2⟩ := h.cells hi _ _ _ hc
                  exact appendB_sound (ap := fun v => Builtin.append_ #[t, t] ty #[v, .slice _ m _]) h hti (Tr.beq_iff.1 q1) (Nat.le_of_ble_eq_true q2) hs rfl (.slice ht hti hz (by rw [← n1.1]; exact cellsA_len _ _ _ _ hc) (fun j u hu => by rw [add_none]; exact n2 j u hu)) n1 (cellsA_len _ _ _ _ hc) hone hm0 (Nat.le_of_ble_eq_true q3) (Nat.le_of_ble_eq_true q4) ha
end

theorem foldSet_rel {ρ : Ren} : ∀ (l l' : List Value) (k off : Nat) (cs cs' : Array Value), LR ρ l l' → AR ρ cs cs' →
    AR ρ ((l.zipIdx k).foldl (fun cs x => cs.setIfInBounds (off + x.2) x.1) cs) ((l'.zipIdx k).foldl (fun cs x => cs.setIfInBounds (off + x.2) x.1) cs')
  | [], [], _, _, _, _, _, h => h
  | [], _ :: _, _, _, _, _, h, _ => by have := h.1; simp at this
  | _ :: _, [], _, _, _, _, h, _ => by have := h.1; simp at this
  | v :: l, v' :: l', k, off, cs, cs', h, hc => by
    simp only [List.zipIdx_cons, List.foldl_cons]
    exact foldSet_rel l l' (k + 1) off _ _ ⟨by simpa using h.1, fun j x x' h1 h2 => h.2 (j + 1) x x' (by simpa using h1) (by simpa using h2)⟩ (hc.set _ (h.2 0 v v' rfl rfl))
theorem foldArr_eq (c : Array Value) (off : Nat) (cs : Array Value) : c.zipIdx.foldl (fun cs (x : Value × Nat) => cs.setIfInBounds (off + x.2) x.1) cs = (c.toList.zipIdx 0).foldl (fun cs x => cs.setIfInBounds (off + x.2) x.1) cs := by
  rw [← Array.foldl_toList, Array.toList_zipIdx]
/-- parts of a literal that are one -/
def PR (ρ : Ren) : List (Nat × Value) → List (Nat × Value) → Prop
  | [], [] => True
  | (i, v) :: l, (i', v') :: l' => i = i' ∧ VR ρ v v' ∧ PR ρ l l'
  | _, _ => False
theorem fill_rel {ρ : Ren} (place : Nat → Option (Nat × Nat)) : ∀ (l l' : List (Nat × Value)) (cs cs' c : Array Value), PR ρ l l' → AR ρ cs cs' → Instr.fill place cs l = some c → ∃ c', Instr.fill place cs' l' = some c' ∧ AR ρ c c'
  | [], [], cs, cs', c, _, hc, h => by
    simp only [Instr.fill] at h ⊢
    injection h with h; subst h
    exact ⟨cs', rfl, hc⟩
  | [], _ :: _, _, _, _, h, _, _ => h.elim
  | (_, _) :: _, [], _, _, _, h, _, _ => h.elim
  | (i, v) :: l, (i', v') :: l', cs, cs', c, ⟨h1, hv, hl⟩, hc, h => by
    subst h1
    simp only [Instr.fill] at h ⊢
    cases hp : place i with
    | none => rw [hp] at h; cases h
    | some q =>
      obtain ⟨off, size⟩ := q
      rw [hp] at h
      dsimp only at h ⊢
      have hcv := hv.cells
      split at h
      · cases h
      · rename_i hn
        rw [hcv.1, hc.1] at hn
        rw [if_neg hn]
        refine fill_rel place l l' _ _ c hl ?_ h
        have e1 := foldArr_eq v.cells off cs
        have e2 := foldArr_eq v'.cells off cs'
        have := foldSet_rel v.cells.toList v'.cells.toList 0 off cs cs' hcv.toLR hc
        rw [← e1, ← e2] at this
        exact this
theorem built_rel {P : Program} (hz : Zeros P) {ρ : Ren} {t : TypeId} {l l' : List (Nat × Value)} (hl : PR ρ l l') {c : Array Value} (h : P.built t l = some c) : ∃ c', P.built t l' = some c' ∧ AR ρ c c' := by
  unfold Program.built at h ⊢
  cases hi : P.info? t with
  | none => rw [hi] at h; cases h
  | some it =>
    rw [hi] at h
    cases hu : P.underlying t with
    | none => rw [hu] at h; cases h
    | some d =>
      rw [hu] at h
      cases d with
      | array n e =>
        dsimp only at h ⊢
        cases hzz : it.zero with
        | none => rw [hzz] at h; cases h
        | some z =>
          rw [hzz] at h
          cases hie : P.info? e with
          | none => rw [hie] at h; cases h
          | some ie =>
            rw [hie] at h
            dsimp only at h ⊢
            exact fill_rel _ l l' _ _ c hl ((hz t it z hi hzz) ρ).cells h
      | struct fs =>
        dsimp only at h ⊢
        cases hzz : it.zero with
        | none => rw [hzz] at h; cases h
        | some z =>
          rw [hzz] at h
          split at h
          · rename_i z2 places e1 _
            injection e1 with e1; subst e1
            exact fill_rel _ l l' _ _ c hl ((hz t it z hi hzz) ρ).cells h
          · cases h
      | _ => cases h
def partsA (t : Operand → Value) (ps : Array (Nat × Operand)) : List (Nat × Value) := ps.toList.map fun p => (p.1, t p.2)
theorem parts_rel {ρ : Ren} {t t' : Operand → Value} : ∀ (l : List (Nat × Operand)), (∀ p ∈ l, VR ρ (t p.2) (t' p.2)) → PR ρ (l.map fun p => (p.1, t p.2)) (l.map fun p => (p.1, t' p.2))
  | [], _ => trivial
  | p :: l, hp => ⟨rfl, hp p List.mem_cons_self, parts_rel l fun q hq => hp q (List.mem_cons_of_mem _ hq)⟩
end Go.Proofs.YtfeppmhcpfccfaaGreatDoor.Sim
/- A verified evaluator, part T: maps, made slices. Of no program. -/
namespace Go.Proofs.YtfeppmhcpfccfaaGreatDoor.Sim
open Go Go.RowKit Go.MapKept

/-- a key of this kind -/
def keyT (d : TypeDesc) (k : Value) : Bool := match d, k with
  | .int k, .int k' _ => decide (k' = k)
  | .string, .string _ => true
  | _, _ => false
theorem keyT_is {d : TypeDesc} {k : Value} (h : keyT d k = true) : IsKey d k := by
  unfold keyT at h
  split at h
  · rename_i a b c
    have : b = a := of_decide_eq_true h
    exact this
  · trivial
  · cases h
theorem keyT_free {d : TypeDesc} {k : Value} (h : keyT d k = true) : leafFree k = true := by
  unfold keyT at h
  split at h
  · rfl
  · rfl
  · cases h
def okV (ok : Bool) (v : Value) (b : Bool) : Value := bif ok then .tuple #[v, .bool b] else v
def lookupA (P : Program) (ty : TypeId) (x k : Value) (ok : Bool) (A : AW) : Option Value :=
  match P.underlying ty with
  | some (.map kt e) => match P.underlying kt, P.info? e with
    | some d, some ie => match ie.zero with
      | some z => bif keyT d k then match x with
          | .map none => some (okV ok z false)
          | .map (some r) => match A.heap.get r with
            | some ⟨.map es _, _, _⟩ => match Instr.findNow d k es.toList 0 with
              | some (some (_, v)) => some (okV ok v true)
              | some none => some (okV ok z false)
              | none => none
            | _ => none
          | _ => none
        else none
      | none => none
    | _, _ => none
  | _ => none
def mapUpdateA (P : Program) (ty : TypeId) (x k v : Value) (A : AW) : Option AW :=
  match P.underlying ty with
  | some (.map kt _) => match P.underlying kt with
    | some d => bif keyT d k then match x with
        | .map (some r) => match A.heap.get r with
          | some ⟨.map es clock, false, false⟩ => match Instr.findNow d k es.toList 0 with
            | some (some (i, _)) => some (A.put r (some ⟨.map (es.modify i fun e => { e with key := k, val := v }) clock, false, false⟩))
            | some none => some (A.put r (some ⟨.map (es.push { key := k, val := v, born := clock }) (clock + 1), false, false⟩))
            | none => none
          | _ => none
        | _ => none
      else none
    | none => none
  | _ => none
/-- an entry of a map, to be written: what it holds, and its age -/
def mapEntryA (P : Program) (ty : TypeId) (x k : Value) (A : AW) : Option (Value × AW) :=
  match P.underlying ty with
  | some (.map kt e) => match P.underlying kt, P.info? e with
    | some d, some ie => match ie.zero with
      | some z => bif keyT d k then match x with
          | .map (some r) => match A.heap.get r with
            | some ⟨.map es clock, false, false⟩ => match Instr.findNow d k es.toList 0 with
              | some (some (i, v)) => some (.tuple #[v, .int .i64 ((((es[i]?).map (·.born)).getD 0 : Nat) : Int)], A.put r (some ⟨.map es clock, false, false⟩))
              | some none => some (.tuple #[z, .int .i64 (clock : Int)], A.put r (some ⟨.map (es.push { key := k, val := z, born := clock }) (clock + 1), false, false⟩))
              | none => none
            | _ => none
          | _ => none
        else none
      | none => none
    | _, _ => none
  | _ => none
def entryStoreA (x s v : Value) (A : AW) : Option AW := match x, s with
  | .map (some r), .int _ born => match A.heap.get r with
    | some ⟨.map es clock, false, false⟩ => match es.toList.findIdx? (fun e => (e.born : Int) == born) with
      | some i => some (A.put r (some ⟨.map (es.modify i fun e => { e with val := v }) clock, false, false⟩))
      | none => none
    | _ => none
  | _, _ => none
def makeMapA (A : AW) : Option (Value × AW) := bif A.room then some (.map (some A.next), A.add ⟨.map #[] 0, false, false⟩) else none
def makeSliceA (P : Program) (ty : TypeId) (l c : Value) (A : AW) : Option (Value × AW) :=
  match P.underlying ty, l, c with
  | some (.slice e), .int _ zl, .int _ zc => match P.info? e with
    | some i => match i.zero with
      | some z => bif decide (0 ≤ zl) && decide (zl ≤ zc) && Nat.ble (zc.toNat * i.size) 16777216 && Nat.ble (i.bytes * zc.toNat) 281474976710656 && Nat.ble zc.toNat 4611686018427387904 && A.room then
          some (.slice (some ⟨A.next, 0, none⟩) zl.toNat zc.toNat, A.add ⟨.cells (madeCells z.cells (zc.toNat * i.size)) e (0, 0), false, false⟩)
        else none
      | none => none
    | none => none
  | _, _, _ => none

/-- lists of entries that are one -/
def EL (ρ : Ren) : List MapEntry → List MapEntry → Prop
  | [], [] => True
  | e :: l, e' :: l' => ER ρ e e' ∧ EL ρ l l'
  | _, _ => False
theorem EL.of {ρ : Ren} : ∀ {l l' : List MapEntry}, l.length = l'.length → (∀ (j : Nat) (e e' : MapEntry), l[j]? = some e → l'[j]? = some e' → ER ρ e e') → EL ρ l l'
  | [], [], _, _ => trivial
  | [], _ :: _, h, _ => by simp at h
  | _ :: _, [], h, _ => by simp at h
  | e :: l, e' :: l', h, hr => ⟨hr 0 e e' rfl rfl, EL.of (by simpa using h) fun j x x' h1 h2 => hr (j + 1) x x' (by simpa using h1) (by simpa using h2)⟩
theorem EL.to {ρ : Ren} : ∀ {l l' : List MapEntry}, EL ρ l l' → l.length = l'.length ∧ ∀ (j : Nat) (e e' : MapEntry), l[j]? = some e → l'[j]? = some e' → ER ρ e e'
  | [], [], _ => ⟨rfl, fun j e e' h => by simp at h⟩
  | [], _ :: _, h => h.elim
  | _ :: _, [], h => h.elim
  | e :: l, e' :: l', h => ⟨by simp [(EL.to h.2).1], fun j x x' h1 h2 => by
    cases j with
    | zero => simp at h1 h2; subst h1 h2; exact h.1
    | succ j => exact (EL.to h.2).2 j x x' (by simpa using h1) (by simpa using h2)⟩
theorem sameNow_plain {d : TypeDesc} {k e : Value} {b : Bool} (h : Instr.sameNow d k e = some b) : leafFree e = true := by
  unfold Instr.sameNow at h
  split at h
  · rfl
  · rfl
  · rfl
  · cases h
theorem sameNow_true {d : TypeDesc} {k e : Value} (h : Instr.sameNow d k e = some true) : e = k := by
  unfold Instr.sameNow at h
  split at h
  · rename_i k1 a k2 b
    split at h
    · rename_i hk
      injection h with h
      subst hk
      have : a = b := by simpa using h
      rw [this]
    · cases h
  · rename_i a b
    injection h with h
    rw [(bytes_beq a b).1 h]
  · rename_i a b
    injection h with h
    have : a = b := by simpa using h
    rw [this]
  · cases h
theorem findNow_rel {ρ : Ren} {d : TypeDesc} {k : Value} : ∀ {l l' : List MapEntry}, EL ρ l l' → ∀ {i : Nat} {r : Option (Nat × Value)}, Instr.findNow d k l i = some r →
    (r = none ∧ Instr.findNow d k l' i = some none) ∨ ∃ j v v' e, r = some (j, v) ∧ Instr.findNow d k l' i = some (some (j, v')) ∧ VR ρ v v' ∧ i ≤ j ∧ l[j - i]? = some e ∧ e.key = k
  | [], [], _, i, r, h => by
    simp only [Instr.findNow] at h
    injection h with h
    exact .inl ⟨h.symm, rfl⟩
  | [], _ :: _, h, _, _, _ => h.elim
  | _ :: _, [], h, _, _, _ => h.elim
  | e :: l, e' :: l', h, i, r, hf => by
    simp only [Instr.findNow] at hf ⊢
    cases hs : Instr.sameNow d k e.key with
    | none => rw [hs] at hf; cases hf
    | some b =>
      have hk : e'.key = e.key := leafFree_eq (sameNow_plain hs) h.1.1
      rw [hs] at hf
      rw [hk, hs]
      cases b with
      | true =>
        dsimp only at hf ⊢
        injection hf with hf
        exact .inr ⟨i, e.val, e'.val, e, hf.symm, rfl, h.1.2.1, Nat.le_refl _, by simp, sameNow_true hs⟩
      | false =>
        dsimp only at hf ⊢
        rcases findNow_rel h.2 hf with h1 | ⟨j, v, v', e2, h1, h2, h3, h4, h5, h6⟩
        · exact .inl h1
        · exact .inr ⟨j, v, v', e2, h1, h2, h3, by omega, by rw [show j - i = j - (i + 1) + 1 by omega, List.getElem?_cons_succ]; exact h5, h6⟩
section
variable {P : Program} {B : Nat} {w0 : Base} {ρ : Ren} {A : AW} {w : World}
theorem okV_rel {v v' : Value} (h : VR ρ v v') (ok b : Bool) : VR ρ (okV ok v b) (okV ok v' b) := by
  cases ok with
  | false => exact h
  | true => exact VR.mkTuple (AR.push (AR.one h) (.bool b))
theorem map_at (h : SR P B w0 ρ A w) {b : Nat} {i : Info} (hi : ρ b = some i) {es : Array MapEntry} {c : Nat} {f r : Bool} (hb : A.heap.get b = some ⟨.map es c, f, r⟩) : ∃ es', w.heap[i.g]? = some (.map es' c) ∧ EL ρ es.toList es'.toList ∧ i.ro = r := by
  obtain ⟨_, o', ho, hor⟩ := h.blk b _ i hb hi
  cases hor with
  | map hro hs hr => exact ⟨_, ho, EL.of (by simpa using hs) (fun j e e' h1 h2 => hr j e e' (by simpa using h1) (by simpa using h2)), hro⟩
theorem lookupA_sound (hz : Zeros P) (h : SR P B w0 ρ A w) {ty : TypeId} {x x' k k' : Value} {ok : Bool} (hx : VR ρ x x') (hk : VR ρ k k') {v : Value} (ha : lookupA P ty x k ok A = some v) : ∃ v', (Instr.lookup ty x' k' ok).run P w = .ok v' w ∧ VR ρ v v' := by
  unfold lookupA at ha
  split at ha
  rotate_left
  · cases ha
  rename_i kt e hu
  split at ha
  rotate_left
  · cases ha
  rename_i d ie hd hie
  split at ha
  rotate_left
  · cases ha
  rename_i z hzz
  cases hkt : keyT d k with
  | false => rw [hkt] at ha; cases ha
  | true =>
    rw [hkt, cond_true] at ha
    obtain rfl : k' = k := leafFree_eq (keyT_free hkt) hk
    have hzr : VR ρ z z := (hz e ie z hie hzz) ρ
    have hck : ∀ e, (Instr.checkKey e 10000 kt k').run P w = .ok () w := fun e => run_checkKey hd (keyT_is hkt) e 9999
    have hzv : (zeroValue e).run P w = .ok z w := by simp [zeroValue, typeInfo, hie, hzz, Result.andThen]
    have nilR : (Instr.lookup ty (.map none) k' ok).run P w = .ok (okV ok z false) w := by
      have hf : (Instr.findKey kt k' (#[] : Array MapEntry).toList).run P w = .ok none w := run_findKey hd rfl
      have hf' : (Instr.findKey kt k' []).run P w = .ok none w := hf
      cases ok <;> simp [Instr.lookup, run_underlying hu, Result.andThen, hck, hf', hzv, okV]
    have some_ : ∀ {g c : Nat} {es' : Array MapEntry} {r : Option (Nat × Value)}, w.heap[g]? = some (.map es' c) → Instr.findNow d k' es'.toList 0 = some r → (Instr.lookup ty (.map (some g)) k' ok).run P w = .ok (match r with | some (_, v) => okV ok v true | none => okV ok z false) w := by
      intro g c es' r h1 h2
      have hf := run_findKey (w := w) hd h2
      have hgo : (getObj g).run P w = .ok (.map es' c) w := Go.MapKept.run_getObj_map h1
      cases r with
      | none => cases ok <;> simp [Instr.lookup, run_underlying hu, Result.andThen, hgo, hck, hf, hzv, okV]
      | some jv => obtain ⟨j, v⟩ := jv; cases ok <;> simp [Instr.lookup, run_underlying hu, Result.andThen, hgo, hck, hf, okV]
    split at ha
    · injection ha with ha; subst ha
      cases hx
      exact ⟨_, nilR, okV_rel hzr ok false⟩
    · rename_i r
      split at ha
      rotate_left
      · cases ha
      rename_i es c f ro hb
      cases hx with
      | map hi =>
        obtain ⟨es', h1, h2, _⟩ := map_at h hi hb
        split at ha
        · rename_i j v1 hf
          injection ha with ha; subst ha
          rcases findNow_rel h2 hf with ⟨q1, _⟩ | ⟨j2, v2, v', e2, q1, q2, q3, _⟩
          · cases q1
          · injection q1 with q1; injection q1 with q1 q1'; subst q1 q1'
            exact ⟨_, some_ h1 q2, okV_rel q3 ok true⟩
        · rename_i hf
          injection ha with ha; subst ha
          rcases findNow_rel h2 hf with ⟨_, q2⟩ | ⟨j2, v2, v', e2, q1, _⟩
          · exact ⟨_, some_ h1 q2, okV_rel hzr ok false⟩
          · cases q1
        · cases ha
    · cases ha
theorem sameBits_key {d : TypeDesc} {k : Value} (h : keyT d k = true) : Instr.sameBits 10000 k k = true := by
  unfold keyT at h
  split at h
  · simp [Instr.sameBits]
  · simp only [Instr.sameBits]
    exact (bytes_beq _ _).2 rfl
  · cases h
theorem mapUpdateA_sound (h : SR P B w0 ρ A w) {ty : TypeId} {x x' k k' v v' : Value} (hx : VR ρ x x') (hk : VR ρ k k') (hv : VR ρ v v') {A' : AW} (ha : mapUpdateA P ty x k v A = some A') : ∃ w', (Instr.mapUpdate ty x' k' v').run P w = .ok () w' ∧ SR P B w0 ρ A' w' := by
  unfold mapUpdateA at ha
  split at ha
  rotate_left
  · cases ha
  rename_i kt e hu
  split at ha
  rotate_left
  · cases ha
  rename_i d hd
  cases hkt : keyT d k with
  | false => rw [hkt] at ha; cases ha
  | true =>
    rw [hkt, cond_true] at ha
    obtain rfl : k' = k := leafFree_eq (keyT_free hkt) hk
    split at ha
    rotate_left
    · cases ha
    rename_i b
    split at ha
    rotate_left
    · cases ha
    rename_i es c hb
    cases hx with
    | map hi =>
      rename_i i
      obtain ⟨es', h1, h2, hro⟩ := map_at h hi hb
      have hsz := (EL.to h2).1
      simp only [Array.length_toList] at hsz
      have hck : ∀ e, (Instr.checkKey e 10000 kt k').run P w = .ok () w := fun e => run_checkKey hd (keyT_is hkt) e 9999
      have hgo : (getObj i.g).run P w = .ok (.map es' c) w := Go.MapKept.run_getObj_map h1
      have hso : ∀ o, (setObj i.g o).run P w = .ok () { w with heap := w.heap.setIfInBounds i.g o } := fun o => Go.MapKept.run_setObj_map o h1
      have hchg : ∀ {y : ABk} {o' : Obj}, OR P ρ i y o' → SR P B w0 ρ (A.put b (some y)) { w with heap := w.heap.setIfInBounds i.g o' } := fun hor =>
        h.change hb hi hro hor rfl rfl rfl (by simp) (heap_set h1).1 (heap_set h1).2
      split at ha
      · rename_i j v1 hf
        injection ha with ha; subst ha
        rcases findNow_rel h2 hf with ⟨q1, _⟩ | ⟨j2, v2, v2', e2, q1, q2, q3, q4, q5, q6⟩
        · cases q1
        · injection q1 with q1; injection q1 with q1 q1'; subst q1 q1'
          have hfk := run_findKey (w := w) hd q2
          have hlt : j < es'.size := by
            have := (List.getElem?_eq_some_iff.1 q5).1
            simp only [Nat.sub_zero, Array.length_toList] at this
            omega
          have hold : ((es'[j]?).map (·.key)).getD k' = k' := by
            have e1 : es'.toList[j]? = some es'[j] := by rw [Array.getElem?_toList]; exact Array.getElem?_eq_getElem hlt
            have e2' : es.toList[j]? = some e2 := by simpa using q5
            have := ((EL.to h2).2 j e2 es'[j] e2' e1).1
            rw [q6] at this
            have e3 : es'[j].key = k' := leafFree_eq (keyT_free hkt) this
            rw [Array.getElem?_eq_getElem hlt]
            exact e3
          refine ⟨_, ?_, hchg (.map (es' := es'.modify j fun e => { e with key := k', val := v' }) hro (by simp [hsz]) (fun p e e' g1 g2 => ?_))⟩
          · simp [Instr.mapUpdate, run_underlying hu, Result.andThen, hgo, hck, hfk, Instr.keyThatStays, hold, sameBits_key hkt, hso]
          · rw [Array.getElem?_modify] at g1 g2
            by_cases hp : j = p
            · subst hp
              rw [if_pos rfl] at g1 g2
              cases ha1 : es[j]? with
              | none => rw [ha1] at g1; cases g1
              | some a1 =>
                cases ha2 : es'[j]? with
                | none => rw [ha2] at g2; cases g2
                | some a2 =>
                  rw [ha1] at g1
                  rw [ha2] at g2
                  injection g1 with g1
                  injection g2 with g2
                  subst g1 g2
                  have := (EL.to h2).2 j a1 a2 (by rw [Array.getElem?_toList]; exact ha1) (by rw [Array.getElem?_toList]; exact ha2)
                  exact ⟨leafFree_rel ρ (keyT_free hkt), hv, this.2.2⟩
            · rw [if_neg hp] at g1 g2
              exact (EL.to h2).2 p e e' (by rw [Array.getElem?_toList]; exact g1) (by rw [Array.getElem?_toList]; exact g2)
      · rename_i hf
        injection ha with ha; subst ha
        rcases findNow_rel h2 hf with ⟨_, q2⟩ | ⟨j2, v2, v2', e2, q1, _⟩
        · have hfk := run_findKey (w := w) hd q2
          refine ⟨_, ?_, hchg (.map (es' := es'.push { key := k', val := v', born := c }) hro (by simp [hsz]) (fun p e e' g1 g2 => ?_))⟩
          · simp [Instr.mapUpdate, run_underlying hu, Result.andThen, hgo, hck, hfk, hso]
          · rw [Array.getElem?_push] at g1 g2
            rw [← hsz] at g2
            by_cases hp : p = es.size
            · rw [if_pos hp] at g1 g2
              injection g1 with g1
              injection g2 with g2
              subst g1 g2
              exact ⟨leafFree_rel ρ (keyT_free hkt), hv, rfl⟩
            · rw [if_neg hp] at g1 g2
              exact (EL.to h2).2 p e e' (by rw [Array.getElem?_toList]; exact g1) (by rw [Array.getElem?_toList]; exact g2)
        · cases q1
      · cases ha
theorem mapEntryA_sound (hzs : Zeros P) (h : SR P B w0 ρ A w) {ty : TypeId} {x x' k k' : Value} (hx : VR ρ x x') (hk : VR ρ k k') {u : Value} {A' : AW} (ha : mapEntryA P ty x k A = some (u, A')) : ∃ u' w', (Instr.mapEntry ty x' k').run P w = .ok u' w' ∧ SR P B w0 ρ A' w' ∧ VR ρ u u' := by
  unfold mapEntryA at ha
  split at ha
  rotate_left
  · cases ha
  rename_i kt e hu
  split at ha
  rotate_left
  · cases ha
  rename_i d ie hd hie
  split at ha
  rotate_left
  · cases ha
  rename_i z hz
  have hzr : VR ρ z z := hzs e ie z hie hz ρ
  cases hkt : keyT d k with
  | false => rw [hkt] at ha; cases ha
  | true =>
    rw [hkt, cond_true] at ha
    obtain rfl : k' = k := leafFree_eq (keyT_free hkt) hk
    split at ha
    rotate_left
    · cases ha
    rename_i b
    split at ha
    rotate_left
    · cases ha
    rename_i es c hb
    cases hx with
    | map hi =>
      rename_i i
      obtain ⟨es', h1, h2, hro⟩ := map_at h hi hb
      have hsz := (EL.to h2).1
      simp only [Array.length_toList] at hsz
      have hck : ∀ e, (Instr.checkKey e 10000 kt k').run P w = .ok () w := fun e => run_checkKey hd (keyT_is hkt) e 9999
      have hgo : (getObj i.g).run P w = .ok (.map es' c) w := Go.MapKept.run_getObj_map h1
      have hso : ∀ o, (setObj i.g o).run P w = .ok () { w with heap := w.heap.setIfInBounds i.g o } := fun o => Go.MapKept.run_setObj_map o h1
      have hzr2 : (zeroValue e).run P w = .ok z w := by simp [zeroValue, typeInfo, hie, hz, Result.andThen]
      have hchg : ∀ {y : ABk} {o' : Obj}, OR P ρ i y o' → SR P B w0 ρ (A.put b (some y)) { w with heap := w.heap.setIfInBounds i.g o' } := fun hor =>
        h.change hb hi hro hor rfl rfl rfl (by simp) (heap_set h1).1 (heap_set h1).2
      split at ha
      · rename_i j v1 hf
        injection ha with ha; injection ha with ha1 ha2; subst ha1 ha2
        rcases findNow_rel h2 hf with ⟨q1, _⟩ | ⟨j2, v2, v2', e2, q1, q2, q3, q4, q5, q6⟩
        · cases q1
        · injection q1 with q1; injection q1 with q1 q1'; subst q1 q1'
          have hfk := run_findKey (w := w) hd q2
          have hlt : j < es'.size := by
            have := (List.getElem?_eq_some_iff.1 q5).1
            simp only [Nat.sub_zero, Array.length_toList] at this
            omega
          have hlt2 : j < es.size := by omega
          have her := (EL.to h2).2 j es[j] es'[j] (by rw [Array.getElem?_toList]; exact Array.getElem?_eq_getElem hlt2) (by rw [Array.getElem?_toList]; exact Array.getElem?_eq_getElem hlt)
          have hke : es[j].key = k' := by
            have e2' : es.toList[j]? = some e2 := by simpa using q5
            rw [Array.getElem?_toList, Array.getElem?_eq_getElem hlt2] at e2'
            injection e2' with e2'
            rw [e2']; exact q6
          have hke' : es'[j].key = k' := by
            have := her.1
            rw [hke] at this
            exact leafFree_eq (keyT_free hkt) this
          have hold : ((es'[j]?).map (·.key)).getD k' = k' := by
            rw [Array.getElem?_eq_getElem hlt]
            exact hke'
          refine ⟨.tuple #[v2', .int .i64 ((((es[j]?).map (·.born)).getD 0 : Nat) : Int)], _, ?_, hchg (.map (es' := es'.modify j fun e => { e with key := k' }) hro (by simp [hsz]) (fun p e e' g1 g2 => ?_)), VR.mkTuple (AR.push (AR.one q3) (.int _ _))⟩
          · simp [Instr.mapEntry, run_underlying hu, Result.andThen, hgo, hck, hfk, Instr.keyThatStays, hold, sameBits_key hkt, hso, goInt]
            rw [Array.getElem?_eq_getElem hlt, Array.getElem?_eq_getElem hlt2]
            exact congrArg Int.ofNat her.2.2.symm
          · rw [Array.getElem?_modify] at g2
            by_cases hp : j = p
            · subst hp
              rw [if_pos rfl, Array.getElem?_eq_getElem hlt] at g2
              rw [Array.getElem?_eq_getElem hlt2] at g1
              injection g1 with g1
              injection g2 with g2
              subst g1 g2
              exact ⟨by rw [hke]; exact leafFree_rel ρ (keyT_free hkt), her.2.1, her.2.2⟩
            · rw [if_neg hp] at g2
              exact (EL.to h2).2 p e e' (by rw [Array.getElem?_toList]; exact g1) (by rw [Array.getElem?_toList]; exact g2)
      · rename_i hf
        injection ha with ha; injection ha with ha1 ha2; subst ha1 ha2
        rcases findNow_rel h2 hf with ⟨_, q2⟩ | ⟨j2, v2, v2', e2, q1, _⟩
        · have hfk := run_findKey (w := w) hd q2
          refine ⟨.tuple #[z, .int .i64 (c : Int)], _, ?_, hchg (.map (es' := es'.push { key := k', val := z, born := c }) hro (by simp [hsz]) (fun p e e' g1 g2 => ?_)), VR.mkTuple (AR.push (AR.one hzr) (.int _ _))⟩
          · simp [Instr.mapEntry, run_underlying hu, Result.andThen, hgo, hck, hfk, hso, hzr2, goInt]
          · rw [Array.getElem?_push] at g1 g2
            rw [← hsz] at g2
            by_cases hp : p = es.size
            · rw [if_pos hp] at g1 g2
              injection g1 with g1
              injection g2 with g2
              subst g1 g2
              exact ⟨leafFree_rel ρ (keyT_free hkt), hzr, rfl⟩
            · rw [if_neg hp] at g1 g2
              exact (EL.to h2).2 p e e' (by rw [Array.getElem?_toList]; exact g1) (by rw [Array.getElem?_toList]; exact g2)
        · cases q1
      · cases ha
theorem EL.findIdx {ρ : Ren} {f : MapEntry → Bool} (hf : ∀ e e' : MapEntry, e.born = e'.born → f e = f e') : ∀ {l l' : List MapEntry}, EL ρ l l' → l.findIdx? f = l'.findIdx? f
  | [], [], _ => rfl
  | [], _ :: _, h => h.elim
  | _ :: _, [], h => h.elim
  | e :: l, e' :: l', h => by
    rw [List.findIdx?_cons, List.findIdx?_cons, hf e e' h.1.2.2, EL.findIdx hf h.2]
theorem entryStoreA_sound (h : SR P B w0 ρ A w) (ty : TypeId) {x x' s s' v v' : Value} (hx : VR ρ x x') (hs : VR ρ s s') (hv : VR ρ v v') {A' : AW} (ha : entryStoreA x s v A = some A') : ∃ w', (Instr.entryStore ty x' s' v').run P w = .ok () w' ∧ SR P B w0 ρ A' w' := by
  unfold entryStoreA at ha
  split at ha
  rotate_left
  · cases ha
  rename_i b kd born
  cases hs
  split at ha
  rotate_left
  · cases ha
  rename_i es c hb
  split at ha
  rotate_left
  · cases ha
  rename_i j hj
  injection ha with ha; subst ha
  cases hx with
  | map hi =>
    rename_i i
    obtain ⟨es', h1, h2, hro⟩ := map_at h hi hb
    have hsz := (EL.to h2).1
    simp only [Array.length_toList] at hsz
    have hgo : (getObj i.g).run P w = .ok (.map es' c) w := Go.MapKept.run_getObj_map h1
    have hso : ∀ o, (setObj i.g o).run P w = .ok () { w with heap := w.heap.setIfInBounds i.g o } := fun o => Go.MapKept.run_setObj_map o h1
    have hfi : es'.findIdx? (fun e => (e.born : Int) == born) = some j := by
      have e1 : ∀ (xs : Array MapEntry) (f : MapEntry → Bool), xs.findIdx? f = xs.toList.findIdx? f := fun ⟨l⟩ f => by simp
      rw [e1, ← EL.findIdx (fun e e' he => by rw [he]) h2]
      exact hj
    refine ⟨{ w with heap := w.heap.setIfInBounds i.g (.map (es'.modify j fun e => { e with val := v' }) c) }, ?_, h.change (o' := .map (es'.modify j fun e => { e with val := v' }) c) hb hi hro (.map hro (by simp [hsz]) (fun p e e' g1 g2 => ?_)) rfl rfl rfl (by simp) (heap_set h1).1 (heap_set h1).2⟩
    · simp [Instr.entryStore, Result.andThen, hgo, asInt, asIntOf, hfi, hso]
    · rw [Array.getElem?_modify] at g1 g2
      by_cases hp : j = p
      · subst hp
        rw [if_pos rfl] at g1 g2
        cases ha1 : es[j]? with
        | none => rw [ha1] at g1; cases g1
        | some a1 =>
          cases ha2 : es'[j]? with
          | none => rw [ha2] at g2; cases g2
          | some a2 =>
            rw [ha1] at g1
            rw [ha2] at g2
            injection g1 with g1
            injection g2 with g2
            subst g1 g2
            have := (EL.to h2).2 j a1 a2 (by rw [Array.getElem?_toList]; exact ha1) (by rw [Array.getElem?_toList]; exact ha2)
            exact ⟨this.1, hv, this.2.2⟩
      · rw [if_neg hp] at g1 g2
        exact (EL.to h2).2 p e e' (by rw [Array.getElem?_toList]; exact g1) (by rw [Array.getElem?_toList]; exact g2)
theorem makeMapA_sound (h : SR P B w0 ρ A w) (ty : TypeId) {v : Value} {A' : AW} (ha : makeMapA A = some (v, A')) : ∃ ρ' v' w', (Instr.makeMap ty none).run P w = .ok v' w' ∧ ρ.le ρ' ∧ SR P B w0 ρ' A' w' ∧ VR ρ' v v' := by
  unfold makeMapA at ha
  cases hr : A.room with
  | false => rw [hr] at ha; cases ha
  | true =>
    rw [hr, cond_true] at ha
    injection ha with ha; injection ha with h1 h2; subst h1 h2
    refine ⟨ρ.more A.next ⟨w.heap.size, false, false, 0, 0, 0⟩, _, _, run_makeMap ty w, Ren.le_more h.fresh, ?_, .map (Ren.more_self _ _ _)⟩
    refine h.new hr rfl rfl rfl (by simp) (Nat.le_trans h.low h.below.size) (heap_alloc w _).1 (fun k _ hk => (heap_alloc w _).2 k hk) (fun b y j hy hj => Nat.ne_of_lt (h.old hy hj)) h.mkNew (.map rfl rfl fun j e e' h1 => by simp at h1)
/-- a channel that is made -/
def makeChanA (P : Program) (ty : TypeId) (x : Value) (A : AW) : Option (Value × AW) := match P.underlying ty, x with
  | some (.chan _ e), .int _ n => match P.info? e with
    | some ie => bif decide (0 ≤ n) && decide (n ≤ 1048576) && Nat.ble ie.bytes 1024 && A.room then some (.chan (some A.next), A.add ⟨.chan n.toNat #[] false 0 0 false, false, false⟩) else none
    | none => none
  | _, _ => none
theorem makeChanA_sound (h : SR P B w0 ρ A w) {ty : TypeId} {x x' : Value} (hx : VR ρ x x') {v : Value} {A' : AW} (ha : makeChanA P ty x A = some (v, A')) : ∃ ρ' v' w', (Instr.makeChan ty x').run P w = .ok v' w' ∧ ρ.le ρ' ∧ SR P B w0 ρ' A' w' ∧ VR ρ' v v' := by
  unfold makeChanA at ha
  split at ha
  rotate_left
  · cases ha
  rename_i dir e kd n hu
  cases hx
  split at ha
  rotate_left
  · cases ha
  rename_i ie hie
  cases hq : decide (0 ≤ n) && decide (n ≤ 1048576) && Nat.ble ie.bytes 1024 && A.room with
  | false => rw [hq] at ha; cases ha
  | true =>
    rw [hq, cond_true] at ha
    injection ha with ha; injection ha with e1 e2; subst e1 e2
    rw [Bool.and_eq_true, Bool.and_eq_true, Bool.and_eq_true] at hq
    obtain ⟨⟨⟨q1, q2⟩, q3⟩, q4⟩ := hq
    have q1 := of_decide_eq_true q1
    have q2 := of_decide_eq_true q2
    have q3 := Nat.le_of_ble_eq_true q3
    have hbytes : ¬ ((281474976710544 : Int) < (ie.bytes : Int) * n) := by
      have h1 : (ie.bytes : Int) * n ≤ 1024 * n := Int.mul_le_mul_of_nonneg_right (by omega) q1
      generalize (ie.bytes : Int) * n = p at h1
      omega
    refine ⟨ρ.more A.next ⟨w.heap.size, false, false, 0, 0, 0⟩, _, w.alloc (.chan n.toNat #[] false 0 0 false), ?_, Ren.le_more h.fresh, ?_, .chan (Ren.more_self _ _ _)⟩
    · have hn1 : ¬ (n < 0) := by omega
      have hn2 : ¬ (9223372036854775807 < n) := by omega
      simp [Instr.makeChan, asInt, asIntOf, run_underlying hu, typeInfo, hie, Result.andThen, hn1, hn2, hbytes]
    · exact h.new q4 (o' := .chan n.toNat #[] false 0 0 false) rfl rfl rfl (by simp) (Nat.le_trans h.low h.below.size) (heap_alloc w _).1 (fun k _ hk => (heap_alloc w _).2 k hk) (fun b y j hy hj => Nat.ne_of_lt (h.old hy hj)) h.mkNew (.chan rfl (AR.empty _))
theorem makeSliceA_sound (hz : Zeros P) (h : SR P B w0 ρ A w) {ty : TypeId} {l l' c c' : Value} (hl : VR ρ l l') (hc : VR ρ c c') {v : Value} {A' : AW} (ha : makeSliceA P ty l c A = some (v, A')) : ∃ ρ' v' w', (Instr.makeSlice ty l' c').run P w = .ok v' w' ∧ ρ.le ρ' ∧ SR P B w0 ρ' A' w' ∧ VR ρ' v v' := by
  unfold makeSliceA at ha
  split at ha
  rotate_left
  · cases ha
  rename_i e kl zl kc zc hu
  cases hl
  cases hc
  split at ha
  rotate_left
  · cases ha
  rename_i i hi
  split at ha
  rotate_left
  · cases ha
  rename_i z hzz
  cases hq : (decide (0 ≤ zl) && decide (zl ≤ zc) && Nat.ble (zc.toNat * i.size) 16777216 && Nat.ble (i.bytes * zc.toNat) 281474976710656 && Nat.ble zc.toNat 4611686018427387904 && A.room) with
  | false => rw [hq] at ha; cases ha
  | true =>
    rw [hq, cond_true] at ha
    rw [Bool.and_eq_true, Bool.and_eq_true, Bool.and_eq_true, Bool.and_eq_true, Bool.and_eq_true] at hq
    obtain ⟨⟨⟨⟨⟨q1, q2⟩, q3⟩, q4⟩, q5⟩, hr⟩ := hq
    have q1 := of_decide_eq_true q1
    have q2 := of_decide_eq_true q2
    have q3 : zc.toNat * i.size ≤ 16777216 := Nat.le_of_ble_eq_true q3
    have q4 : i.bytes * zc.toNat ≤ 281474976710656 := Nat.le_of_ble_eq_true q4
    have q5 : zc.toNat ≤ 4611686018427387904 := Nat.le_of_ble_eq_true q5
    injection ha with ha; injection ha with h1 h2; subst h1 h2
    have hzc : (zc.toNat : Int) = zc := by omega
    have q4' : (i.bytes : Int) * zc ≤ 281474976710656 := by
      rw [← hzc, ← Int.natCast_mul]
      omega
    have hrun := run_makeSlice (P := P) (w := w) ty e i z hu hi hzz kl kc zl zc q1 q2 q3 q4' (by omega)
    refine ⟨ρ.more A.next ⟨w.heap.size, false, false, 0, 0, 0⟩, _, _, hrun, Ren.le_more h.fresh, ?_, .slice (Ren.more_self _ _ _) (.inl ⟨rfl, rfl⟩)⟩
    have hcells : AR (ρ.more A.next ⟨w.heap.size, false, false, 0, 0, 0⟩) (madeCells z.cells (zc.toNat * i.size)) (madeCells z.cells (zc.toNat * i.size)) := by
      have hzr : AR (ρ.more A.next ⟨w.heap.size, false, false, 0, 0, 0⟩) z.cells z.cells := ((hz e i z hi hzz) _).cells
      unfold madeCells
      refine AR.map _ fun x => ?_
      by_cases hx : x % z.cells.size < z.cells.size
      · rw [getElem!_pos z.cells _ hx]
        exact hzr.2 _ hx hx
      · rw [getElem!_neg z.cells _ hx]
        exact free_rel _ rfl
    exact h.new hr rfl rfl rfl (by simp) (Nat.le_trans h.low h.below.size) (heap_alloc w _).1 (fun k _ hk => (heap_alloc w _).2 k hk) (fun b y j hy hj => Nat.ne_of_lt (h.old hy hj)) h.mkNew (.exact rfl rfl hcells rfl rfl)

/-- a walk over a map -/
def rangeA (P : Program) (ty : TypeId) (x : Value) (A : AW) : Option (Value × AW) :=
  match P.underlying ty with
  | some (.map _ _) => bif A.room then match x with
      | .map none => some (.pointer (some ⟨A.next, 0, none⟩), A.add ⟨.mapIter none 0 #[] 0, false, false⟩)
      | .map (some r) => match A.heap.get r with
        | some ⟨.map _ c, _, _⟩ => some (.pointer (some ⟨A.next, 0, none⟩), A.add ⟨.mapIter (some r) c #[] c, false, false⟩)
        | _ => none
      | _ => none
    else none
  | some .string => bif A.room then match x with
      | .string s => some (.pointer (some ⟨A.next, 0, none⟩), A.add ⟨.stringIter s 0, false, false⟩)
      | _ => none
    else none
  | _ => none
/-- .. over a string -/
def nextSA (x : Value) (A : AW) : Option (Value × AW) :=
  match x with
  | .pointer (some ⟨r, 0, none⟩) => match A.heap.get r with
    | some ⟨.stringIter s p, false, false⟩ => bif Nat.blt p s.size then some (.tuple #[.bool true, .int .i64 (p : Int), .int .i32 ((Utf8.decode s p).1 : Int)], A.put r (some ⟨.stringIter s (p + (Utf8.decode s p).2), false, false⟩)) else some (.tuple #[.bool false], A)
    | _ => none
  | _ => none
def nextA (x : Value) (A : AW) : Option (Value × AW) :=
  match x with
  | .pointer (some ⟨r, 0, none⟩) => match A.heap.get r with
    | some ⟨.mapIter none _ _ _, _, _⟩ => some (.tuple #[.bool false], A)
    | some ⟨.mapIter (some b) since seen last, false, false⟩ => match A.heap.get b with
      | some ⟨.map es clock, _, _⟩ => bif !seen.isEmpty && !es.isEmpty && es.toList.all (fun e => decide (last ≤ e.born)) then none else
        match es.toList.filter fun e => !seen.contains e.born with
        | [] => some (.tuple #[.bool false], A)
        | [e] => bif Nat.blt e.born since then some (.tuple #[.bool true, e.key, e.val], A.put r (some ⟨.mapIter (some b) since (seen.push e.born) clock, false, false⟩)) else none
        | _ => none
      | _ => none
    | _ => none
  | _ => none
def entryA (x : Value) (A : AW) : Option Value :=
  match x with
  | .pointer (some ⟨r, 0, none⟩) => match A.heap.get r with
    | some ⟨.mapIter (some b) _ seen stepped, _, _⟩ => match seen.back?, A.heap.get b with
      | some st, some ⟨.map es clock, _, _⟩ => bif Nat.beq clock stepped then match es.toList.find? (fun e => e.born == st) with
          | some e => some (.tuple #[e.key, e.val])
          | none => none
        else none
      | _, _ => none
    | _ => none
  | _ => none
def deleteA (P : Program) (ty : TypeId) (x k : Value) (A : AW) : Option AW :=
  match P.underlying ty with
  | some (.map kt _) => match P.underlying kt with
    | some d => bif keyT d k then match x with
        | .map none => some A
        | .map (some r) => match A.heap.get r with
          | some ⟨.map es clock, false, false⟩ => match Instr.findNow d k es.toList 0 with
            | some (some (i, _)) => some (A.put r (some ⟨.map (es.eraseIdxIfInBounds i) clock, false, false⟩))
            | some none => some (A.put r (some ⟨.map es clock, false, false⟩))
            | none => none
          | _ => none
        | _ => none
      else none
    | none => none
  | _ => none
theorem EL.filter {ρ : Ren} {f : MapEntry → Bool} (hf : ∀ e e' : MapEntry, e.born = e'.born → f e = f e') : ∀ {l l' : List MapEntry}, EL ρ l l' → EL ρ (l.filter f) (l'.filter f)
  | [], [], _ => trivial
  | [], _ :: _, h => h.elim
  | _ :: _, [], h => h.elim
  | e :: l, e' :: l', h => by
    have := EL.filter hf h.2
    rw [List.filter_cons, List.filter_cons, hf e e' h.1.2.2]
    cases f e' with
    | true => exact ⟨h.1, this⟩
    | false => exact this
theorem EL.all {ρ : Ren} {f : MapEntry → Bool} (hf : ∀ e e' : MapEntry, e.born = e'.born → f e = f e') : ∀ {l l' : List MapEntry}, EL ρ l l' → l.all f = l'.all f
  | [], [], _ => rfl
  | [], _ :: _, h => h.elim
  | _ :: _, [], h => h.elim
  | e :: l, e' :: l', h => by rw [List.all_cons, List.all_cons, hf e e' h.1.2.2, EL.all hf h.2]
theorem EL.find {ρ : Ren} {f : MapEntry → Bool} (hf : ∀ e e' : MapEntry, e.born = e'.born → f e = f e') : ∀ {l l' : List MapEntry}, EL ρ l l' → ∀ {e : MapEntry}, l.find? f = some e → ∃ e', l'.find? f = some e' ∧ ER ρ e e'
  | [], [], _, e, h => by cases h
  | [], _ :: _, h, _, _ => h.elim
  | _ :: _, [], h, _, _ => h.elim
  | a :: l, a' :: l', h, e, hq => by
    rw [List.find?_cons] at hq ⊢
    rw [← hf a a' h.1.2.2]
    cases hfa : f a with
    | true => rw [hfa] at hq; injection hq with hq; subst hq; exact ⟨a', rfl, h.1⟩
    | false => rw [hfa] at hq; exact EL.find hf h.2 hq
theorem rangeA_sound (h : SR P B w0 ρ A w) {ty : TypeId} {x x' : Value} (hx : VR ρ x x') {v : Value} {A' : AW} (ha : rangeA P ty x A = some (v, A')) : ∃ ρ' v' w', (Instr.range ty x').run P w = .ok v' w' ∧ ρ.le ρ' ∧ SR P B w0 ρ' A' w' ∧ VR ρ' v v' := by
  unfold rangeA at ha
  split at ha
  rotate_left
  · rename_i hu
    cases hr : A.room with
    | false => rw [hr] at ha; cases ha
    | true =>
      rw [hr, cond_true] at ha
      split at ha
      · rename_i s
        injection ha with ha; injection ha with h1 h2; subst h1 h2
        cases hx
        have hle := Ren.le_more (i := ⟨w.heap.size, false, false, 0, 0, 0⟩) h.fresh
        refine ⟨_, .pointer (some ⟨w.heap.size, 0, none⟩), w.alloc (.stringIter s 0), by simp [Instr.range, run_underlying hu, Result.andThen], hle, ?_, .ptr (Ren.more_self _ _ _)⟩
        exact h.new hr rfl rfl rfl (by simp) (Nat.le_trans h.low h.below.size) (heap_alloc w _).1 (fun k _ hk => (heap_alloc w _).2 k hk) (fun b y j hy hj => Nat.ne_of_lt (h.old hy hj)) h.mkNew (.siter ⟨rfl, rfl⟩ s 0)
      · cases ha
  · cases ha
  rename_i kt e hu
  cases hr : A.room with
  | false => rw [hr] at ha; cases ha
  | true =>
    rw [hr, cond_true] at ha
    have fin : ∀ {m m' : Option Nat} {c : Nat}, MR ρ m m' → (Instr.range ty x').run P w = .ok (.pointer (some ⟨w.heap.size, 0, none⟩)) (w.alloc (.mapIter m' c #[] c)) →
        ∃ ρ' v' w', (Instr.range ty x').run P w = .ok v' w' ∧ ρ.le ρ' ∧ SR P B w0 ρ' (A.add ⟨.mapIter m c #[] c, false, false⟩) w' ∧ VR ρ' (.pointer (some ⟨A.next, 0, none⟩)) v' := by
      intro m m' c hm hrun
      have hle := Ren.le_more (i := ⟨w.heap.size, false, false, 0, 0, 0⟩) h.fresh
      refine ⟨_, _, _, hrun, hle, ?_, .ptr (Ren.more_self _ _ _)⟩
      exact h.new hr rfl rfl rfl (by simp) (Nat.le_trans h.low h.below.size) (heap_alloc w _).1 (fun k _ hk => (heap_alloc w _).2 k hk) (fun b y j hy hj => Nat.ne_of_lt (h.old hy hj)) h.mkNew (.miter ⟨rfl, rfl⟩ (hm.mono hle) _ _ _)
    split at ha
    · injection ha with ha; injection ha with h1 h2; subst h1 h2
      cases hx
      exact fin (.inl ⟨rfl, rfl⟩) (by simp [Instr.range, run_underlying hu, Result.andThen])
    · rename_i b
      split at ha
      · rename_i es c f ro hb
        injection ha with ha; injection ha with h1 h2; subst h1 h2
        cases hx with
        | map hi =>
          rename_i i
          obtain ⟨es', q1, q2, _⟩ := map_at h hi hb
          have hgo : (getObj i.g).run P w = .ok (.map es' c) w := Go.MapKept.run_getObj_map q1
          exact fin (.inr ⟨b, i, rfl, hi, rfl⟩) (by simp [Instr.range, run_underlying hu, Result.andThen, hgo])
      · cases ha
    · cases ha
theorem iter_at (h : SR P B w0 ρ A w) {b : Nat} {i : Info} (hi : ρ b = some i) {m : Option Nat} {s l : Nat} {seen : Array Nat} {f r : Bool} (hb : A.heap.get b = some ⟨.mapIter m s seen l, f, r⟩) : ∃ m', w.heap[i.g]? = some (.mapIter m' s seen l) ∧ MR ρ m m' ∧ i.ro = r ∧ i.sh = 0 := by
  obtain ⟨_, o', ho, hor⟩ := h.blk b _ i hb hi
  cases hor with
  | miter hro hm a b c => exact ⟨_, ho, hm, hro⟩
theorem entryA_sound (h : SR P B w0 ρ A w) {x x' : Value} (hx : VR ρ x x') {v : Value} (ha : entryA x A = some v) : ∃ v', (Instr.entry x').run P w = .ok v' w ∧ VR ρ v v' := by
  unfold entryA at ha
  split at ha
  rotate_left
  · cases ha
  rename_i r
  split at ha
  rotate_left
  · cases ha
  rename_i b s seen stepped f ro hr
  split at ha
  rotate_left
  · cases ha
  rename_i st es clock f2 ro2 hst hb
  cases hq : Nat.beq clock stepped with
  | false => rw [hq] at ha; cases ha
  | true =>
    rw [hq, cond_true] at ha
    obtain rfl := Tr.beq_iff.1 hq
    cases hf : es.toList.find? (fun e => e.born == st) with
    | none => rw [hf] at ha; cases ha
    | some e =>
      rw [hf] at ha
      injection ha with ha; subst ha
      cases hx with
      | ptr hi =>
        rename_i i
        obtain ⟨m', q1, q2, hro⟩ := iter_at h hi hr
        simp only [hro.2, Nat.add_zero]
        rcases q2 with ⟨q2, _⟩ | ⟨b', j, q2, q3, q4⟩
        · cases q2
        · injection q2 with q2; subst q2 q4
          obtain ⟨es', q5, q6, _⟩ := map_at h q3 hb
          obtain ⟨e', q7, q8⟩ := EL.find (fun e e' he => by rw [he]) q6 hf
          have hg1 : (getObj i.g).run P w = .ok (.mapIter (some j.g) s seen clock) w := by simp [getObj, Sem.run, q1]
          have hg2 : (getObj j.g).run P w = .ok (.map es' clock) w := Go.MapKept.run_getObj_map q5
          have hf' : es'.find? (fun e => e.born == st) = some e' := by rw [← Array.find?_toList]; exact q7
          refine ⟨.tuple #[e'.key, e'.val], ?_, VR.mkTuple (AR.push (AR.one q8.1) q8.2.1)⟩
          simp [Instr.entry, Result.andThen, hg1, hst, hg2, hf']
theorem nextSA_sound (h : SR P B w0 ρ A w) {x x' : Value} (hx : VR ρ x x') (ty : TypeId) {v : Value} {A' : AW} (ha : nextSA x A = some (v, A')) : ∃ v' w', (Instr.next x' true ty).run P w = .ok v' w' ∧ SR P B w0 ρ A' w' ∧ VR ρ v v' := by
  unfold nextSA at ha
  split at ha
  rotate_left
  · cases ha
  rename_i r
  split at ha
  rotate_left
  · cases ha
  rename_i s p hr
  cases hx with
  | ptr hi =>
    rename_i i
    obtain ⟨hB, o', hg, hor⟩ := h.blk r _ i hr hi
    cases hor with
    | siter hro =>
      simp only [hro.2, Nat.add_zero]
      have hg1 : (getObj i.g).run P w = .ok (.stringIter s p) w := by simp [getObj, Sem.run, hg]
      cases hq : Nat.blt p s.size with
      | false =>
        rw [hq, cond_false] at ha
        injection ha with ha; injection ha with h1 h2; subst h1 h2
        have hlt : ¬ p < s.size := fun hh => by rw [show Nat.blt p s.size = true from Nat.ble_eq_true_of_le hh] at hq; cases hq
        exact ⟨.tuple #[.bool false], w, by simp [Instr.next, Result.andThen, hg1, hlt], h, VR.mkTuple (AR.one (.bool false))⟩
      | true =>
        rw [hq, cond_true] at ha
        injection ha with ha; injection ha with h1 h2; subst h1 h2
        have hlt : p < s.size := Nat.le_of_ble_eq_true hq
        have hso : ∀ o, (setObj i.g o).run P w = .ok () { w with heap := w.heap.setIfInBounds i.g o } := fun o => by simp [setObj, Sem.run, hg]
        have hlg : i.g < w.heap.size := (Array.getElem?_eq_some_iff.1 hg).1
        refine ⟨.tuple #[.bool true, .int .i64 (p : Int), .int .i32 ((Utf8.decode s p).1 : Int)], { w with heap := w.heap.setIfInBounds i.g (.stringIter s (p + (Utf8.decode s p).2)) }, by simp [Instr.next, Result.andThen, hg1, hlt, hso, goInt], ?_, ?_⟩
        · exact h.change hr hi hro.1 (.siter hro s _) rfl rfl rfl (by simp) (by simp [hlg]) (fun k hk => by simp [Ne.symm hk])
        · exact VR.mkTuple ((AR.one (.bool true)).push (.int _ _) |>.push (.int _ _))
theorem nextA_sound (h : SR P B w0 ρ A w) {x x' : Value} (hx : VR ρ x x') (ty : TypeId) {v : Value} {A' : AW} (ha : nextA x A = some (v, A')) : ∃ v' w', (Instr.next x' false ty).run P w = .ok v' w' ∧ SR P B w0 ρ A' w' ∧ VR ρ v v' := by
  unfold nextA at ha
  split at ha
  rotate_left
  · cases ha
  rename_i r
  have hover : VR ρ (.tuple #[.bool false]) (.tuple #[.bool false]) := VR.mkTuple (AR.one (.bool false))
  split at ha
  · rename_i s seen l f ro hr
    injection ha with ha; injection ha with h1 h2; subst h1 h2
    cases hx with
    | ptr hi =>
      rename_i i
      obtain ⟨m', q1, q2, hro⟩ := iter_at h hi hr
      simp only [hro.2, Nat.add_zero]
      rcases q2 with ⟨_, rfl⟩ | ⟨b', j, q2, _⟩
      · have hg1 : (getObj i.g).run P w = .ok (.mapIter none s seen l) w := by simp [getObj, Sem.run, q1]
        exact ⟨_, w, by simp [Instr.next, Result.andThen, hg1], h, hover⟩
      · cases q2
  · rename_i b since seen last hr
    split at ha
    rotate_left
    · cases ha
    rename_i es clock f2 ro2 hb
    cases hx with
    | ptr hi =>
      rename_i i
      obtain ⟨m', q1, q2, hro⟩ := iter_at h hi hr
      simp only [hro.2, Nat.add_zero]
      rcases q2 with ⟨q2, _⟩ | ⟨b', j, q2, q3, q4⟩
      · cases q2
      · injection q2 with q2; subst q2 q4
        obtain ⟨es', q5, q6, _⟩ := map_at h q3 hb
        have hg1 : (getObj i.g).run P w = .ok (.mapIter (some j.g) since seen last) w := by simp [getObj, Sem.run, q1]
        have hg2 : (getObj j.g).run P w = .ok (.map es' clock) w := Go.MapKept.run_getObj_map q5
        have hso : ∀ o, (setObj i.g o).run P w = .ok () { w with heap := w.heap.setIfInBounds i.g o } := fun o => by simp [setObj, Sem.run, q1]
        have hsz := (EL.to q6).1
        simp only [Array.length_toList] at hsz
        have hemp : es'.isEmpty = es.isEmpty := by simp [Array.isEmpty, hsz]
        have hall : es'.all (fun e => decide (last ≤ e.born)) = es.toList.all (fun e => decide (last ≤ e.born)) := by
          rw [← Array.all_toList]; exact (EL.all (fun e e' he => by rw [he]) q6).symm
        cases hc : (!seen.isEmpty && !es.isEmpty && es.toList.all (fun e => decide (last ≤ e.born))) with
        | true => rw [hc] at ha; cases ha
        | false =>
          rw [hc, cond_false] at ha
          have hc' : (!seen.isEmpty && !es'.isEmpty && es'.all (fun e => decide (last ≤ e.born))) = false := by rw [hemp, hall]; exact hc
          have hfil := EL.filter (f := fun e => !seen.contains e.born) (fun e e' he => by rw [he]) q6
          have harr : es'.filter (fun e => !seen.contains e.born) = (es'.toList.filter fun e => !seen.contains e.born).toArray := by
            apply Array.toList_inj.1
            rw [Array.toList_filter]
          split at ha
          · rename_i hl
            rw [hl] at hfil
            have hl' : es'.filter (fun e => !seen.contains e.born) = #[] := by
              rw [harr]
              cases hq : (es'.toList.filter fun e => !seen.contains e.born) with
              | nil => rfl
              | cons a t => rw [hq] at hfil; exact hfil.elim
            injection ha with ha; injection ha with h1 h2; subst h1 h2
            refine ⟨_, w, ?_, h, hover⟩
            unfold Instr.next
            simp only [Sem.run_bind, hg1, Result.andThen, hg2]
            rw [if_neg (by rw [show (!seen.isEmpty && !es'.isEmpty && es'.all fun x => decide (x.born ≥ last)) = false from hc']; decide)]
            rw [hl']
            simp [choose, Sem.run, Question.forced, Result.andThen]
          · rename_i e hl
            rw [hl] at hfil
            obtain ⟨e', hl', her⟩ : ∃ e', es'.filter (fun e => !seen.contains e.born) = #[e'] ∧ ER ρ e e' := by
              rw [harr]
              cases hq : (es'.toList.filter fun e => !seen.contains e.born) with
              | nil => rw [hq] at hfil; exact hfil.elim
              | cons a t =>
                rw [hq] at hfil
                cases t with
                | nil => exact ⟨a, rfl, hfil.1⟩
                | cons b t => exact hfil.2.elim
            cases hlt : Nat.blt e.born since with
            | false => rw [hlt] at ha; cases ha
            | true =>
              rw [hlt, cond_true] at ha
              injection ha with ha; injection ha with h1 h2; subst h1 h2
              have hb1 : e.born < since := Nat.le_of_ble_eq_true hlt
              have hb2 : e'.born < since := by rw [← her.2.2]; exact hb1
              have hb3 : ¬ since ≤ e'.born := by omega
              refine ⟨.tuple #[.bool true, e'.key, e'.val], { w with heap := w.heap.setIfInBounds i.g (.mapIter (some j.g) since (seen.push e'.born) clock) }, ?_, ?_, VR.mkTuple (AR.push (AR.push (AR.one (.bool true)) her.1) her.2.1)⟩
              · unfold Instr.next
                simp only [Sem.run_bind, hg1, Result.andThen, hg2]
                rw [if_neg (by rw [show (!seen.isEmpty && !es'.isEmpty && es'.all fun x => decide (x.born ≥ last)) = false from hc']; decide)]
                rw [hl']
                simp [choose, Sem.run, Question.forced, Result.andThen, hb2, hb3, hso]
              · rw [her.2.2]
                exact h.change hr hi hro.1 (.miter hro (.inr ⟨b, j, rfl, q3, rfl⟩) _ _ _) rfl rfl rfl (by simp) (heap_set q1).1 (heap_set q1).2
          · cases ha
  · cases ha
theorem deleteA_sound (h : SR P B w0 ρ A w) {ty : TypeId} (ku rt : TypeId) {x x' k k' : Value} (hx : VR ρ x x') (hk : VR ρ k k') {A' : AW} (ha : deleteA P ty x k A = some A') : ∃ w', (Builtin.delete_ #[ty, ku] rt #[x', k']).run P w = .ok (.tuple #[]) w' ∧ SR P B w0 ρ A' w' := by
  unfold deleteA at ha
  split at ha
  rotate_left
  · cases ha
  rename_i kt e hu
  split at ha
  rotate_left
  · cases ha
  rename_i d hd
  cases hkt : keyT d k with
  | false => rw [hkt] at ha; cases ha
  | true =>
    rw [hkt, cond_true] at ha
    obtain rfl : k' = k := leafFree_eq (keyT_free hkt) hk
    have hck : ∀ e, (Instr.checkKey e 10000 kt k').run P w = .ok () w := fun e => run_checkKey hd (keyT_is hkt) e 9999
    split at ha
    · injection ha with ha; subst ha
      cases hx
      exact ⟨w, by simp [Builtin.delete_, run_underlying hu, Result.andThen, hck], h⟩
    · rename_i b
      split at ha
      rotate_left
      · cases ha
      rename_i es c hb
      cases hx with
      | map hi =>
        rename_i i
        obtain ⟨es', h1, h2, hro⟩ := map_at h hi hb
        have hsz := (EL.to h2).1
        simp only [Array.length_toList] at hsz
        have hgo : (getObj i.g).run P w = .ok (.map es' c) w := Go.MapKept.run_getObj_map h1
        have hso : ∀ o, (setObj i.g o).run P w = .ok () { w with heap := w.heap.setIfInBounds i.g o } := fun o => Go.MapKept.run_setObj_map o h1
        have hchg : ∀ {y : ABk} {o' : Obj}, OR P ρ i y o' → SR P B w0 ρ (A.put b (some y)) { w with heap := w.heap.setIfInBounds i.g o' } := fun hor =>
          h.change hb hi hro hor rfl rfl rfl (by simp) (heap_set h1).1 (heap_set h1).2
        have hrel := (EL.to h2).2
        split at ha
        · rename_i j v1 hf
          injection ha with ha; subst ha
          rcases findNow_rel h2 hf with ⟨q1, _⟩ | ⟨j2, v2, v2', e2, q1, q2, q3, q4, q5, q6⟩
          · cases q1
          · injection q1 with q1; injection q1 with q1 q1'; subst q1 q1'
            have hfk := run_findKey (w := w) hd q2
            refine ⟨_, ?_, hchg (.map (es' := es'.eraseIdxIfInBounds j) hro ?_ (fun p e e' g1 g2 => ?_))⟩
            · simp [Builtin.delete_, run_underlying hu, Result.andThen, hgo, hck, hfk, hso]
            · have k1 : (es.eraseIdxIfInBounds j).toList = es.toList.eraseIdx j := by simp
              have k2 : (es'.eraseIdxIfInBounds j).toList = es'.toList.eraseIdx j := by simp
              rw [← Array.length_toList, ← Array.length_toList, k1, k2, List.length_eraseIdx, List.length_eraseIdx, Array.length_toList, Array.length_toList, hsz]
            · have k1 : (es.eraseIdxIfInBounds j).toList = es.toList.eraseIdx j := by simp
              have k2 : (es'.eraseIdxIfInBounds j).toList = es'.toList.eraseIdx j := by simp
              rw [← Array.getElem?_toList, k1, List.getElem?_eraseIdx] at g1
              rw [← Array.getElem?_toList, k2, List.getElem?_eraseIdx] at g2
              by_cases hp : p < j
              · rw [if_pos hp] at g1 g2; exact hrel p e e' g1 g2
              · rw [if_neg hp] at g1 g2; exact hrel (p + 1) e e' g1 g2
        · rename_i hf
          injection ha with ha; subst ha
          rcases findNow_rel h2 hf with ⟨_, q2⟩ | ⟨j2, v2, v2', e2, q1, _⟩
          · have hfk := run_findKey (w := w) hd q2
            refine ⟨_, ?_, hchg (.map (es' := es') hro hsz (fun p e e' g1 g2 => hrel p e e' (by rw [Array.getElem?_toList]; exact g1) (by rw [Array.getElem?_toList]; exact g2)))⟩
            simp [Builtin.delete_, run_underlying hu, Result.andThen, hgo, hck, hfk, hso]
          · cases q1
        · cases ha
    · cases ha
end
end Go.Proofs.YtfeppmhcpfccfaaGreatDoor.Sim
/- A verified evaluator, part J: what an operation does. Of no program. -/
namespace Go.Proofs.YtfeppmhcpfccfaaGreatDoor.Sim
open Go Go.RowKit

/-- what comes of an operation -/
inductive AN where
  | val (v : Value)
  | skip
  | enter (f : FuncId) (args : Array Value)
  | round (b : Nat) (tmps : Array Value) (assign body : Code)
def NR (ρ : Ren) : AN → Next → Prop
  | .val v, .value v' => VR ρ v v'
  | .skip, .skip => True
  | .enter f args, .enter f' args' => f = f' ∧ AR ρ args args'
  | .round b tmps a c, .round l _ tmps' a' c' => (∃ i, ρ b = some i ∧ l = i.g) ∧ AR ρ tmps tmps' ∧ a = a' ∧ c = c'
  | _, _ => False
def valA : Option (Value × AW) → Option (AN × AW)
  | some (v, A) => some (.val v, A)
  | none => none
def isSel : Op → Bool
  | .select _ _ => true
  | _ => false
/-- an operation over values that name no block -/
def freeQ (P : Program) (t : Operand → Value) (o : Oper) : Option Value :=
  bif o.op.operands.toList.all (fun x => free (t x)) && !isSel o.op then
    match pureRun P (execOp t o) with
    | some (.value v) => bif free v then some v else none
    | _ => none
  else none
def natOf : Option Value → Nat → Option Nat
  | none, d => some d
  | some (.int _ z), _ => bif decide (0 ≤ z) then some z.toNat else none
  | some _, _ => none
def sliceA (P : Program) (ty : TypeId) (x : Value) (lo hi : Option Value) (A : AW) : Option Value :=
  match P.underlying ty, x with
  | some (.slice e), .slice a n c =>
    match P.info? e, natOf lo 0, natOf hi n with
    | some i, some l, some h =>
      bif Nat.ble l h && Nat.ble h c then
        match a with
        | none => some (.slice none (h - l) (c - l))
        | some ⟨b, o, none⟩ => match A.heap.get b with
          | some ⟨.cells _ e' _, fam, _⟩ =>
            bif fam then (bif Nat.beq e' e then some (.slice (some ⟨b, o + l * i.size, none⟩) (h - l) (c - l)) else none)
            else some (.slice (some ⟨b, bif Nat.beq c l then o else o + l * i.size, none⟩) (h - l) (c - l))
          | _ => none
        | _ => none
      else none
    | _, _, _ => none
  | _, _ => none
/-- a slice whose capacity is cut to its length: of a block that was grown it bears a mark -/
def clipA (P : Program) (ty : TypeId) (x hi mx : Value) (A : AW) : Option Value :=
  match P.underlying ty, x with
  | some (.slice e), .slice a n c => match P.info? e, natOf (some hi) 0, natOf (some mx) 0 with
    | some _, some h, some m => bif Nat.beq h n && Nat.beq m n && Nat.ble n c then
        match a with
        | none => some (.slice none n n)
        | some ⟨b, o, none⟩ => match A.heap.get b with
          | some ⟨.cells _ _ _, fam, _⟩ => bif fam then (bif Nat.blt 0 n then some (.slice (some ⟨b, o, some 0⟩) n n) else none) else some (.slice (some ⟨b, o, none⟩) n n)
          | _ => none
        | _ => none
      else none
    | _, _, _ => none
  | _, _ => none
def buildSliceA (P : Program) (ty : TypeId) (len : Nat) (l : List (Nat × Value)) (A : AW) : Option (Value × AW) :=
  match P.underlying ty with
  | some (.slice e) => match P.info? e with
    | some ie => match ie.zero with
      | some z =>
        bif Nat.ble (len * ie.size) 16777216 then
          match Instr.fill (fun i => some (i * ie.size, ie.size)) ((Array.range (len * ie.size)).map (z.cells[· % z.cells.size]!)) l with
          | some cells => bif A.room then some (.slice (some ⟨A.next, 0, none⟩) len len, A.add ⟨.cells cells e (0, 0), false, false⟩) else none
          | none => none
        else none
      | none => none
    | none => none
  | _ => none
def shapeOf : Value → Nat
  | .pointer _ => 1
  | .slice _ _ _ => 2
  | .map _ => 3
  | .nilFunc => 4
  | .func _ _ _ => 5
  | .nilIface => 6
  | .iface _ _ => 7
  | _ => 0
def eqShape (a b : Value) : Bool :=
  match shapeOf a, shapeOf b with
  | 1, 1 => true
  | 2, 2 => true
  | 3, 3 => true
  | 4, 4 => true
  | 4, 5 => true
  | 5, 4 => true
  | 6, 7 => true
  | 7, 6 => true
  | _, _ => false
def eqA (P : Program) (neg : Bool) (ty : TypeId) (x y : Value) : Option Value :=
  bif eqShape x y then match pureRun P (eqlA ty x y) with
  | some b => some (.bool (bif neg then !b else b))
  | none => none
  else none
/-- what an interface holds, of its own type -/
def assertA (P : Program) (d : Option Value) (ty t' : TypeId) (v : Value) : Option Value := bif Nat.beq t' ty then match P.underlying ty with
    | some (.interface _) => d
    | some _ => some v
    | none => d
  else d
/-- the operations that look at no memory -/
def opQ (P : Program) (t : Operand → Value) (o : Oper) : Option Value :=
  match o.op with
  | .move x | .assign x => some (t x)
  | .pick c a b => match t c with
    | .bool q => some (bif q then t a else t b)
    | _ => none
  | .build ty ps => match P.built ty (partsA t ps) with
    | some c => some (.agg c)
    | none => none
  | .nilCheck x => match t x with
    | .pointer (some a) => some (.pointer (some a))
    | .func (.func f) a b => some (.func (.func f) a b)
    | _ => none
  | .fieldAddr s x f => pureRun P (fieldAtA s (t x) f)
  | .field s x f => pureRun P (Instr.field s (t x) f)
  | .indexAddr ty x i => pureRun P (indexAtA ty (t x) (t i))
  | .index ty x i => match t x with
    | .agg _ => pureRun P (indexA ty (t x) (t i))
    | _ => freeQ P t o
  | .extract x i => pureRun P (Instr.extract (t x) i)
  | .makeInterface ty x => pureRun P (Instr.makeInterface ty (t x))
  | .typeAssert x _ ty false => match t x with
    | .iface t' v => assertA P (freeQ P t o) ty t' v
    | _ => freeQ P t o
  | .makeFunc fn f c => bif plainFn fn then some (.func fn (evs t f) (evs t c)) else none
  | .slice _ x _ _ none => match t x with
    | .slice _ _ _ => none
    | _ => freeQ P t o
  | .binOp op ty x y _ => bif free (t x) && free (t y) then freeQ P t o else match op with
    | .eql => eqA P false ty (t x) (t y)
    | .neq => eqA P true ty (t x) (t y)
    | _ => none
  | .call ⟨.builtin .len, args, argTypes⟩ => match args.toList with
    | [x] => match t x with
      | .slice _ n _ => match argTypes[0]? with
        | some ty => match P.underlying ty with
          | some (.slice _) => some (.int .i64 n)
          | _ => none
        | none => none
      | _ => freeQ P t o
    | _ => none
  | _ => freeQ P t o
def okOp (o : Oper) : Bool := o.op.operands.toList.all okX
section
variable {P : Program} {B : Nat} {w0 : Base} {ρ : Ren} {A : AW} {w : World} {t t' : Operand → Value}
/-- the conclusion -/
def Does (P : Program) (B : Nat) (w0 : Base) (ρ : Ren) (w : World) (s : Sem Next) (n : AN) (A' : AW) : Prop :=
  ∃ ρ' n' w', s.run P w = .ok n' w' ∧ ρ.le ρ' ∧ SR P B w0 ρ' A' w' ∧ NR ρ' n n'
theorem does_val (h : SR P B w0 ρ A w) {s s' : Sem Value} (hs : Sim P B w0 ρ s s' VR) {n : AN} {A' : AW} (ha : valA (runA P s A) = some (n, A')) : Does P B w0 ρ w (do pure (.value (← s'))) n A' := by
  cases hr : runA P s A with
  | none => rw [hr] at ha; cases ha
  | some x =>
    obtain ⟨v, A1⟩ := x
    rw [hr] at ha
    simp only [valA] at ha
    injection ha with ha; injection ha with h1 h2; subst h1 h2
    obtain ⟨ρ', v', w', g1, g2, g3, g4⟩ := hs.1 A w h v A1 hr
    exact ⟨ρ', .value v', w', by simp only [Bind.bind]; rw [run_bind P s' _ w w' v' g1]; rfl, g2, g3, g4⟩
theorem does_run {s' : Sem Value} {ρ' : Ren} {v v' : Value} {w' : World} {A' : AW} (g1 : s'.run P w = .ok v' w') (g2 : ρ.le ρ') (g3 : SR P B w0 ρ' A' w') (g4 : VR ρ' v v') : Does P B w0 ρ w (do pure (.value (← s'))) (.val v) A' :=
  ⟨ρ', .value v', w', by simp only [Bind.bind]; rw [run_bind P s' _ w w' v' g1]; rfl, g2, g3, g4⟩
theorem does_pure (h : SR P B w0 ρ A w) {v v' : Value} (hv : VR ρ v v') : Does P B w0 ρ w (pure (.value v')) (.val v) A := ⟨ρ, _, w, rfl, Ren.le_refl _, h, hv⟩
theorem okAll {o : Oper} (hk : o.op.operands.toList.all okX = true) {x : Operand} (hx : x ∈ o.op.operands) : okX x = true := List.all_eq_true.1 hk x (Array.mem_toList_iff.2 hx)
/-- a value, whatever the world -/
def Gives (P : Program) (ρ : Ren) (s : Sem Next) (v : Value) : Prop := ∃ v', VR ρ v v' ∧ ∀ W, s.run P W = .ok (.value v') W
theorem gives_sem {s s' : Sem Value} (hs : Sim P B w0 ρ s s' VR) {v : Value} (ha : pureRun P s = some v) : Gives P ρ (do pure (.value (← s'))) v := by
  obtain ⟨v', h1, h2⟩ := hs.2 v ha
  exact ⟨v', h2, fun W => by simp only [Bind.bind]; rw [run_bind P s' _ W W v' (pureRun_sound h1 W)]; rfl⟩
theorem gives_run {s' : Sem Value} {v v' : Value} (h : ∀ W, s'.run P W = .ok v' W) (hv : VR ρ v v') : Gives P ρ (do pure (.value (← s'))) v :=
  ⟨v', hv, fun W => by simp only [Bind.bind]; rw [run_bind P s' _ W W v' (h W)]; rfl⟩
theorem gives_pure {v v' : Value} (hv : VR ρ v v') : Gives P ρ (pure (.value v')) v := ⟨v', hv, fun _ => rfl⟩
theorem freeQ_sound {o : Oper} (ok : ∀ x ∈ o.op.operands, VR ρ (t x) (t' x)) {v : Value} (ha : freeQ P t o = some v) : Gives P ρ (execOp t' o) v := by
  unfold freeQ at ha
  cases hq : o.op.operands.toList.all (fun x => free (t x)) && !isSel o.op with
  | false => rw [hq] at ha; cases ha
  | true =>
    rw [hq, cond_true] at ha
    rw [Bool.and_eq_true] at hq
    have hev : ∀ x ∈ o.op.operands, t' x = t x := fun x hx => free_eq (List.all_eq_true.1 hq.1 x (Array.mem_toList_iff.2 hx)) (ok x hx)
    have hsel : ∀ cs b, o.op ≠ .select cs b := by
      intro cs b he
      rw [he] at hq
      have := hq.2
      simp [isSel] at this
    have hcg := execOp_congr (ρ := t') (ρ' := t) o hsel hev
    cases hp : pureRun P (execOp t o) with
    | none => rw [hp] at ha; cases ha
    | some n1 =>
      rw [hp] at ha
      cases n1 with
      | value v1 =>
        dsimp only at ha
        cases hf : free v1 with
        | false => rw [hf] at ha; cases ha
        | true =>
          rw [hf, cond_true] at ha
          injection ha with ha; subst ha
          exact ⟨v1, free_rel ρ hf, fun W => by rw [hcg]; exact pureRun_sound hp W⟩
      | _ => cases ha
theorem natOf_run {lo lo' : Option Value} {d k : Nat} (hl : (lo = none ∧ lo' = none) ∨ ∃ v v', lo = some v ∧ lo' = some v' ∧ VR ρ v v') (h : natOf lo d = some k) :
    (lo' = none ∧ k = d) ∨ ∃ kk z, lo' = some (.int kk z) ∧ 0 ≤ z ∧ (k : Int) = z := by
  rcases hl with ⟨rfl, rfl⟩ | ⟨v, v', rfl, rfl, hv⟩
  · simp only [natOf] at h; injection h with h; exact .inl ⟨rfl, h.symm⟩
  · cases hv with
    | int kk z =>
      simp only [natOf] at h
      by_cases hz : 0 ≤ z
      · rw [decide_eq_true hz, cond_true] at h
        injection h with h
        exact .inr ⟨kk, z, rfl, hz, by omega⟩
      · rw [decide_eq_false hz] at h; cases h
    | _ => cases h
theorem run_sliceAt {ty e : TypeId} {i : TypeInfo} (ht : P.underlying ty = some (.slice e)) (hi : P.info? e = some i) (a : Option Addr) (n c l h : Nat) {lo hi' : Option Value}
    (hlo : (lo = none ∧ l = 0) ∨ ∃ kk z, lo = some (.int kk z) ∧ 0 ≤ z ∧ (l : Int) = z) (hhi : (hi' = none ∧ h = n) ∨ ∃ kk z, hi' = some (.int kk z) ∧ 0 ≤ z ∧ (h : Int) = z) (hlh : l ≤ h) (hhc : h ≤ c) (w : World) :
    (Instr.sliceAt ty (.slice a n c) lo hi' none).run P w = .ok (.slice (if c = l then a else a.map (·.add (l * i.size))) (h - l) (c - l)) w := by
  rcases hlo with ⟨rfl, rfl⟩ | ⟨k1, z1, rfl, p1, q1⟩
  · rcases hhi with ⟨rfl, rfl⟩ | ⟨k2, z2, rfl, p2, q2⟩
    · simp [Instr.sliceAt, Instr.slice, Instr.sliceBounds, run_underlying ht, sizeOf, typeInfo, hi]
    · have : z2 ≤ (c : Int) := by omega
      have h3 : z2.toNat = h := by omega
      simp [Instr.sliceAt, Instr.slice, Instr.sliceBounds, Instr.sliceBound, asIntOf, run_underlying ht, sizeOf, typeInfo, hi, p2, this, h3]
  · have h4 : z1.toNat = l := by omega
    rcases hhi with ⟨rfl, rfl⟩ | ⟨k2, z2, rfl, p2, q2⟩
    · have : z1 ≤ (h : Int) := by omega
      simp [Instr.sliceAt, Instr.slice, Instr.sliceBounds, Instr.sliceBound, asIntOf, run_underlying ht, sizeOf, typeInfo, hi, p1, this, h4]
    · have h5 : z2 ≤ (c : Int) := by omega
      have h3 : z2.toNat = h := by omega
      have h6 : z1 ≤ (h : Int) := by omega
      simp [Instr.sliceAt, Instr.slice, Instr.sliceBounds, Instr.sliceBound, asIntOf, run_underlying ht, sizeOf, typeInfo, hi, p1, p2, h3, h4, h5, h6]
theorem sliceA_sound (h : SR P B w0 ρ A w) {ty : TypeId} {x x' : Value} (hx : VR ρ x x') {lo lo' hi hi' : Option Value} (hl : (lo = none ∧ lo' = none) ∨ ∃ v v', lo = some v ∧ lo' = some v' ∧ VR ρ v v') (hh : (hi = none ∧ hi' = none) ∨ ∃ v v', hi = some v ∧ hi' = some v' ∧ VR ρ v v')
    {v : Value} (ha : sliceA P ty x lo hi A = some v) : ∃ v', (∀ W, (Instr.sliceAt ty x' lo' hi' none).run P W = .ok v' W) ∧ VR ρ v v' := by
  unfold sliceA at ha
  split at ha
  rotate_left
  · cases ha
  rename_i e a n c htu
  split at ha
  rotate_left
  · cases ha
  rename_i i l k hie hlo hhi
  cases hq : Nat.ble l k && Nat.ble k c with
  | false => rw [hq] at ha; cases ha
  | true =>
    rw [hq, cond_true] at ha
    rw [Bool.and_eq_true] at hq
    have hlk : l ≤ k := Nat.le_of_ble_eq_true hq.1
    have hkc : k ≤ c := Nat.le_of_ble_eq_true hq.2
    have r1 := natOf_run hl hlo
    have r2 := natOf_run hh hhi
    cases hx with
    | nilSlice n c =>
      dsimp only at ha
      injection ha with ha; subst ha
      refine ⟨_, run_sliceAt htu hie none n c l k r1 r2 hlk hkc, ?_⟩
      simp only [Option.map_none, ite_self]
      exact .nilSlice _ _
    | clip => cases ha
    | @edge b o p j hj hl1 he1 ho1 hc1 =>
      dsimp only at ha
      have hl0 : l = 0 := by omega
      subst hl0
      have hk0 : k = 0 := by omega
      subst hk0
      have hr := run_sliceAt htu hie (some ⟨j.g, p, none⟩) 0 0 0 0 r1 r2 (Nat.le_refl 0) (Nat.le_refl 0)
      split at ha
      rotate_left
      · cases ha
      rename_i c0 e' f fam ro hb
      obtain ⟨_, o', _, hor⟩ := h.blk b _ j hb hj
      cases fam with
      | true =>
        rw [cond_true] at ha
        cases hq2 : Nat.beq e' e with
        | false => rw [hq2] at ha; cases ha
        | true =>
          rw [hq2, cond_true] at ha
          injection ha with ha; subst ha
          rw [Nat.zero_mul, Nat.add_zero]
          exact ⟨_, hr, .edge hj hl1 he1 ho1 hc1⟩
      | false =>
        cases hor with
        | exact p1 p2 p3 p4 => rw [hl1] at p2; cases p2
        | tab p1 p2 p3 => rw [hl1] at p2; cases p2
    | @slice b o n c c' j hj hc =>
      dsimp only at ha
      have hcc : c ≤ c' := by rcases hc with ⟨_, h1⟩ | ⟨_, h1, _⟩ <;> omega
      have hr := run_sliceAt htu hie (some ⟨j.g, o + j.sh, none⟩) n c' l k r1 r2 hlk (by omega)
      split at ha
      rotate_left
      · cases ha
      rename_i c0 e' f fam ro hb
      obtain ⟨_, o', _, hor⟩ := h.blk b _ j hb hj
      cases fam with
      | true =>
        rw [cond_true] at ha
        cases hq2 : Nat.beq e' e with
        | false => rw [hq2] at ha; cases ha
        | true =>
          rw [hq2, cond_true] at ha
          have hee : e' = e := Tr.beq_iff.1 hq2
          subst hee
          injection ha with ha; subst ha
          cases hor with
          | loose p1 p2 p3 p4 p5 p6 p7 =>
            obtain ⟨ti, hti, hes⟩ := p7
            rw [hie] at hti; injection hti with hti; subst hti
            have hcap : o + j.sh + c' * j.esz = j.csz := by
              rcases hc with ⟨h8, _⟩ | ⟨_, _, h8, _⟩
              · rw [h8] at p2; cases p2
              · exact h8
            refine ⟨_, hr, ?_⟩
            have hp5 : 0 < j.esz ∧ (o = 0 ∨ 0 < c') := by
              rcases hc with ⟨h8, _⟩ | ⟨_, _, _, h8, h9⟩
              · rw [h8] at p2; cases p2
              · exact ⟨h8, h9⟩
            by_cases hl' : l = 0 ∨ l < c
            rotate_left
            · have hlast : l = c := by omega
              subst hlast
              have hk0 : k = l := by omega
              subst hk0
              have hl0 : 0 < k := by omega
              rw [Nat.sub_self]
              by_cases h9 : c' = k
              · subst h9
                rw [if_pos rfl, Nat.sub_self]
                refine .edge hj p2 hp5.1 ?_ ?_
                · have := Nat.mul_pos hl0 hp5.1
                  rw [hes]
                  omega
                · rw [hes]; omega
              · rw [if_neg h9, Option.map_some, add_none, Nat.add_right_comm]
                have hm2 : k * i.size + (c' - k) * i.size = c' * i.size := by rw [← Nat.add_mul]; congr 1; omega
                exact .slice hj (.inr ⟨p2, by omega, by rw [← hes] at hcap ⊢; omega, hp5.1, .inr (by omega)⟩)
            have hmul : l * i.size + (c' - l) * i.size = c' * i.size := by rw [← Nat.add_mul]; congr 1; omega
            have hadd : (if c' = l then some (⟨j.g, o + j.sh, none⟩ : Addr) else (some (⟨j.g, o + j.sh, none⟩ : Addr)).map (·.add (l * i.size))) = some ⟨j.g, o + l * i.size + j.sh, none⟩ := by
              split
              · rename_i h9
                have : l = 0 := by omega
                subst this; simp
              · simp only [Option.map_some, add_none, Nat.add_right_comm]
            rw [hadd]
            have hp6 : o + l * i.size = 0 ∨ 0 < c' - l := by
              rcases hl' with h9 | h9
              · subst h9
                rcases hp5.2 with h10 | h10
                · exact .inl (by omega)
                · exact .inr (by omega)
              · exact .inr (by omega)
            exact .slice hj (.inr ⟨p2, by omega, by rw [← hes] at hcap ⊢; omega, hp5.1, hp6⟩)
      | false =>
        rw [cond_false] at ha
        injection ha with ha; subst ha
        cases hor with
        | exact p1 p2 p3 p4 =>
          have hce : c' = c := by
            rcases hc with ⟨_, h8⟩ | ⟨h8, _⟩
            · exact h8
            · rw [h8] at p2; cases p2
          subst hce
          refine ⟨_, hr, ?_⟩
          by_cases h9 : c' = l
          · rw [if_pos h9, Tr.beq_iff.2 h9, cond_true]
            exact .slice hj (.inl ⟨p2, rfl⟩)
          · rw [if_neg h9, Tr.beq_false h9, cond_false, Option.map_some, add_none, Nat.add_right_comm]
            exact .slice hj (.inl ⟨p2, rfl⟩)
        | tab p1 p2 p3 =>
          have hce : c' = c := by
            rcases hc with ⟨_, h8⟩ | ⟨h8, _⟩
            · exact h8
            · rw [h8] at p2; cases p2
          subst hce
          refine ⟨_, hr, ?_⟩
          by_cases h9 : c' = l
          · rw [if_pos h9, Tr.beq_iff.2 h9, cond_true]
            exact .slice hj (.inl ⟨p2, rfl⟩)
          · rw [if_neg h9, Tr.beq_false h9, cond_false, Option.map_some, add_none, Nat.add_right_comm]
            exact .slice hj (.inl ⟨p2, rfl⟩)
theorem clipA_sound (h : SR P B w0 ρ A w) {ty : TypeId} {x x' hi hi' mx mx' : Value} (hx : VR ρ x x') (hh : VR ρ hi hi') (hm : VR ρ mx mx')
    {v : Value} (ha : clipA P ty x hi mx A = some v) : ∃ v', (∀ W, (Instr.sliceAt ty x' none (some hi') (some mx')).run P W = .ok v' W) ∧ VR ρ v v' := by
  unfold clipA at ha
  split at ha
  rotate_left
  · cases ha
  rename_i e a n c htu
  split at ha
  rotate_left
  · cases ha
  rename_i i k m hie hhi hmx
  cases hq : Nat.beq k n && Nat.beq m n && Nat.ble n c with
  | false => rw [hq] at ha; cases ha
  | true =>
    rw [hq, cond_true] at ha
    simp only [Bool.and_eq_true] at hq
    obtain rfl := Tr.beq_iff.1 hq.1.1
    obtain rfl := Tr.beq_iff.1 hq.1.2
    have hkc : m ≤ c := Nat.le_of_ble_eq_true hq.2
    rcases natOf_run (.inr ⟨_, _, rfl, rfl, hh⟩) hhi with ⟨h1, _⟩ | ⟨k1, z1, h1, p1, q1⟩
    · cases h1
    rcases natOf_run (.inr ⟨_, _, rfl, rfl, hm⟩) hmx with ⟨h2, _⟩ | ⟨k2, z2, h2, p2, q2⟩
    · cases h2
    injection h1 with h1; injection h2 with h2; subst h1 h2
    have hadd : ∀ a : Option Addr, a.map (fun x => x.add 0) = a := by
      intro a
      cases a with
      | none => rfl
      | some a => simp only [Option.map_some, add0]
    have run : ∀ (a : Option Addr) (c2 : Nat), m ≤ c2 → ∀ W, (Instr.sliceAt ty (.slice a m c2) none (some (.int k1 z1)) (some (.int k2 z2))).run P W = .ok (.slice a m m) W := by
      intro a c2 hc2 W
      have e1 : z1.toNat = m := by omega
      have e2 : z2.toNat = m := by omega
      have e3 : z2 ≤ (c2 : Int) := by omega
      have e4 : z1 ≤ (m : Int) := by omega
      have e5 : z1 = z2 := by omega
      simp [Instr.sliceAt, Instr.slice, Instr.sliceBounds, Instr.sliceBound, asIntOf, run_underlying htu, sizeOf, typeInfo, hie, p1, p2, e1, e2, e3, e4]
      intro _
      exact hadd a
    cases hx with
    | nilSlice n c =>
      dsimp only at ha
      injection ha with ha; subst ha
      exact ⟨_, run none c hkc, .nilSlice _ _⟩
    | @edge b o p j hj hl1 he1 ho1 hc1 =>
      dsimp only at ha
      split at ha
      rotate_left
      · cases ha
      rename_i c0 e' f fam ro hb
      obtain ⟨_, o', _, hor⟩ := h.blk b _ j hb hj
      cases fam with
      | true => cases ha
      | false =>
        cases hor with
        | exact p1 p2 p3 p4 => rw [hl1] at p2; cases p2
        | tab p1 p2 p3 => rw [hl1] at p2; cases p2
    | @slice b o n c c' j hj hc =>
      dsimp only at ha
      have hcc : c ≤ c' := by rcases hc with ⟨_, h1⟩ | ⟨_, h1, _⟩ <;> omega
      split at ha
      rotate_left
      · cases ha
      rename_i c0 e' f fam ro hb
      obtain ⟨_, o', _, hor⟩ := h.blk b _ j hb hj
      refine ⟨_, run (some ⟨j.g, o + j.sh, none⟩) c' (by omega), ?_⟩
      cases fam with
      | true =>
        rw [cond_true] at ha
        cases hn : Nat.blt 0 m with
        | false => rw [hn] at ha; cases ha
        | true =>
          rw [hn, cond_true] at ha
          injection ha with ha; subst ha
          exact .clip hj
      | false =>
        rw [cond_false] at ha
        injection ha with ha; subst ha
        cases hor with
        | exact p1 p2 p3 p4 => exact .slice hj (.inl ⟨p2, rfl⟩)
        | tab p1 p2 p3 => exact .slice hj (.inl ⟨p2, rfl⟩)
    | _ => cases ha
theorem buildSliceA_sound (hz : Zeros P) (h : SR P B w0 ρ A w) {ty : TypeId} {len : Nat} {l : List (Nat × Value)} {ps : Array (Nat × Value)} (hl : PR ρ l ps.toList) {v : Value} {A' : AW} (ha : buildSliceA P ty len l A = some (v, A')) :
    ∃ ρ' v' w', (Instr.buildSlice ty len ps).run P w = .ok v' w' ∧ ρ.le ρ' ∧ SR P B w0 ρ' A' w' ∧ VR ρ' v v' := by
  unfold buildSliceA at ha
  split at ha
  rotate_left
  · cases ha
  rename_i e htu
  cases hie : P.info? e with
  | none => rw [hie] at ha; cases ha
  | some ie =>
    rw [hie] at ha
    dsimp only at ha
    cases hzz : ie.zero with
    | none => rw [hzz] at ha; cases ha
    | some z =>
      rw [hzz] at ha
      dsimp only at ha
      cases hq : Nat.ble (len * ie.size) 16777216 with
      | false => rw [hq] at ha; cases ha
      | true =>
        rw [hq, cond_true] at ha
        have h1 : len * ie.size ≤ 16777216 := Nat.le_of_ble_eq_true hq
        cases hf : Instr.fill (fun i => some (i * ie.size, ie.size)) ((Array.range (len * ie.size)).map (z.cells[· % z.cells.size]!)) l with
        | none => rw [hf] at ha; cases ha
        | some cells =>
          rw [hf] at ha
          dsimp only at ha
          cases hr : A.room with
          | false => rw [hr] at ha; cases ha
          | true =>
            rw [hr, cond_true] at ha
            injection ha with ha; injection ha with e1 e2; subst e1 e2
            have hzr := ((hz e ie z hie hzz) ρ).cells
            have hcr : AR ρ ((Array.range (len * ie.size)).map (z.cells[· % z.cells.size]!)) ((Array.range (len * ie.size)).map (z.cells[· % z.cells.size]!)) := by
              refine AR.map _ fun k => ?_
              by_cases hk : k % z.cells.size < z.cells.size
              · rw [getElem!_pos z.cells _ hk]; exact hzr.2 _ hk hk
              · rw [getElem!_neg z.cells _ hk]; exact .bool _
            obtain ⟨cells', g1, g2⟩ := fill_rel _ l ps.toList _ _ cells hl hcr hf
            obtain ⟨ρ', a', w', q1, q2, q3, b, i, q4, q5, q6, q7⟩ := (Sim.newRow (P := P) (B := B) (w0 := w0) g2 e).1 A w h ⟨A.next, 0, none⟩ (A.add ⟨.cells cells e (0, 0), false, false⟩) (by simp only [Go.newRow, newObj, Bind.bind, Pure.pure, Sem.bind, runA, hr, cond_true])
            injection q4 with q4 _; subst q4
            subst q7
            refine ⟨ρ', .slice (some ⟨i.g, 0 + i.sh, none⟩) len len, w', ?_, q2, q3, .slice q5 (.inl ⟨q6.1, rfl⟩)⟩
            have hs1 : ¬ len * ie.size > 2 ^ 24 := by have : (2 : Nat) ^ 24 = 16777216 := by decide
                                                      omega
            by_cases hs2 : len * ie.size = 0
            · rw [hs2] at g1
              have hE : ∀ f : Nat → Value, (Array.range 0).map f = #[] := fun f => Array.eq_empty_of_size_eq_zero (by simp)
              rw [hE] at g1
              simp [Instr.buildSlice, run_underlying htu, sizeOf, typeInfo, hie, hs2, hE, g1, q1]
            · simp [Instr.buildSlice, run_underlying htu, sizeOf, typeInfo, zeroValue, hie, hzz, hs1, hs2, g1, q1]
theorem opt_rel (x : Option Operand) (hx : ∀ y, x = some y → VR ρ (t y) (t' y)) : (x.map t = none ∧ x.map t' = none) ∨ ∃ v v', x.map t = some v ∧ x.map t' = some v' ∧ VR ρ v v' := by
  cases x with
  | none => exact .inl ⟨rfl, rfl⟩
  | some y => exact .inr ⟨_, _, rfl, rfl, hx y rfl⟩
theorem does_slice {s' : Sem Value} {A' : AW} {n : AN} {r : Option (Value × AW)} (ha : valA r = some (n, A')) (hr : ∀ v A1, r = some (v, A1) → ∃ ρ' v' w', s'.run P w = .ok v' w' ∧ ρ.le ρ' ∧ SR P B w0 ρ' A1 w' ∧ VR ρ' v v') : Does P B w0 ρ w (do pure (.value (← s'))) n A' := by
  cases hrr : r with
  | none => rw [hrr] at ha; cases ha
  | some x =>
    obtain ⟨v, A1⟩ := x
    rw [hrr] at ha
    simp only [valA] at ha
    injection ha with ha; injection ha with h1 h2; subst h1 h2
    obtain ⟨ρ', v', w', g1, g2, g3, g4⟩ := hr v A1 hrr
    exact does_run g1 g2 g3 g4
theorem shapeOf_rel {v v' : Value} (h : VR ρ v v') : shapeOf v' = shapeOf v := by cases h <;> rfl
theorem eqShape_op {a b : Value} (h : eqShape a b = true) (ty : TypeId) (x y : Operand) :
    (∀ op, eqGuard op ty x y a b = pure ()) ∧ binOp .eql ty a b = (do pure (.bool (← Op.equal ty a b))) ∧ binOp .neq ty a b = (do pure (.bool (!(← Op.equal ty a b)))) := by
  have hg : ∀ op, eqGuard op ty x y a b = pure () := by
    intro op
    cases a <;> cases b <;> first
      | (cases h; done)
      | (cases op <;> rfl)
  refine ⟨hg, ?_, ?_⟩
  · cases a <;> cases b <;> first
      | (cases h; done)
      | rfl
  · cases a <;> cases b <;> first
      | (cases h; done)
      | rfl
theorem eqA_sound {neg : Bool} {ty : TypeId} {x y : Operand} {v1 v1' v2 v2' : Value} (hx : VR ρ v1 v1') (hy : VR ρ v2 v2') {v : Value} (ha : eqA P neg ty v1 v2 = some v) :
    Gives P ρ (do pure (.value (← (do eqGuard (bif neg then .neq else .eql) ty x y v1' v2'; binOp (bif neg then .neq else .eql) ty v1' v2')))) v := by
  unfold eqA at ha
  cases hsh : eqShape v1 v2 with
  | false => rw [hsh] at ha; cases ha
  | true =>
    rw [hsh, cond_true] at ha
    have hsh' : eqShape v1' v2' = true := by unfold eqShape at hsh ⊢; rw [shapeOf_rel hx, shapeOf_rel hy]; exact hsh
    obtain ⟨hg, h1, h2⟩ := eqShape_op hsh' ty x y
    cases hr : pureRun P (eqlA ty v1 v2) with
    | none => rw [hr] at ha; cases ha
    | some b =>
      rw [hr] at ha
      dsimp only at ha
      injection ha with ha; subst ha
      obtain ⟨b', g1, g2⟩ := (Sim.eql (B := 0) (w0 := default) hx hy ty).2 b hr
      subst g2
      refine gives_run (v' := .bool (bif neg then !b' else b')) (fun W => ?_) (.bool _)
      have g := pureRun_sound g1 W
      cases neg with
      | false =>
        simp only [cond_false, hg, h1, Bind.bind]
        show ((Op.equal ty v1' v2').bind _).run P W = _
        rw [run_bind P _ _ W W b' g]; rfl
      | true =>
        simp only [cond_true, hg, h2, Bind.bind]
        show ((Op.equal ty v1' v2').bind _).run P W = _
        rw [run_bind P _ _ W W b' g]; rfl
end
end Go.Proofs.YtfeppmhcpfccfaaGreatDoor.Sim
