/- A verified evaluator, part M: what a region's operations do ahead of the world. Of no program. -/
import Derived.Test.YtnneooidkbhbeaaGreatDoorSimL
import Derived.LoopN
import Derived.Scope
set_option linter.unusedVariables false
set_option linter.unusedSimpArgs false
namespace Go.Proofs.YtnneooidkbhbeaaGreatDoor.Sim
open Go Go.RowKit

/-- how many entries a map has -/
def lenM (P : Program) (A : AW) (ts : Array TypeId) (v : Value) : Option Value := match v with
  | .map (some b) => match ts[0]? with
    | some ty => match P.underlying ty with
      | some (.map _ _) => match A.heap.get b with
        | some ⟨.map es _, _, _⟩ => some (.int .i64 (es.size : Int))
        | _ => none
      | _ => none
    | none => none
  | _ => none
theorem lenM_spec {P : Program} {A : AW} {ts : Array TypeId} {v u : Value} (h : lenM P A ts v = some u) : ∃ b ty k e es c f r, v = .map (some b) ∧ ts[0]? = some ty ∧ P.underlying ty = some (.map k e) ∧ A.heap.get b = some ⟨.map es c, f, r⟩ ∧ u = .int .i64 (es.size : Int) := by
  unfold lenM at h
  split at h
  rotate_left
  · cases h
  split at h
  rotate_left
  · cases h
  rename_i hts
  split at h
  rotate_left
  · cases h
  rename_i hu
  split at h
  rotate_left
  · cases h
  rename_i hb
  injection h with h
  exact ⟨_, _, _, _, _, _, _, _, rfl, hts, hu, hb, h.symm⟩
theorem lenM_of {P : Program} {A : AW} {ts : Array TypeId} {b : Nat} {ty k e : TypeId} {es : Array MapEntry} {c : Nat} {f r : Bool} (h1 : ts[0]? = some ty) (h2 : P.underlying ty = some (.map k e)) (h3 : A.heap.get b = some ⟨.map es c, f, r⟩) : lenM P A ts (.map (some b)) = some (.int .i64 (es.size : Int)) := by
  unfold lenM
  dsimp only
  rw [h1]
  dsimp only
  rw [h2]
  dsimp only
  rw [h3]
/-- a value that is read -/
def opM (P : Program) (t : Operand → Value) (A : AW) (o : Oper) : Option Value := match o.op with
  | .load ty a => match loadL P A ty (t a) with
    | some (_, v) => some v
    | none => none
  | .slice ty x lo hi none => sliceA P ty (t x) (lo.map t) (hi.map t) A
  | .call ⟨.builtin .len, args, ts⟩ => match args.toList with
    | [x] => lenM P A ts (t x)
    | _ => none
  | _ => none
/-- a block that is made: its cells, its elements' type, a slice's length -/
def ghostA (P : Program) (t : Operand → Value) (o : Oper) : Option (Array Value × TypeId × Option (Nat × Nat)) := match o.op with
  | .alloc e => match P.info? e with
    | some i => match i.zero with
      | some z => some (z.cells, e, none)
      | none => none
    | none => none
  | .box e x => some ((t x).cells, e, none)
  | .buildSlice ty len ps => match P.underlying ty with
    | some (.slice e) => match P.info? e with
      | some ie => match ie.zero with
        | some z =>
          bif Nat.ble (len * ie.size) 16777216 then
            match Instr.fill (fun i => some (i * ie.size, ie.size)) ((Array.range (len * ie.size)).map (z.cells[· % z.cells.size]!)) (partsA t ps) with
            | some cells => some (cells, e, some (len, len))
            | none => none
          else none
        | none => none
      | none => none
    | _ => none
  | .makeSlice ty l c => match P.underlying ty, t l, t c with
    | some (.slice e), .int _ zl, .int _ zc => match P.info? e with
      | some i => match i.zero with
        | some z => bif decide (0 ≤ zl) && decide (zl ≤ zc) && Nat.ble (zc.toNat * i.size) 16777216 && Nat.ble (i.bytes * zc.toNat) 281474976710656 && Nat.ble zc.toNat 4611686018427387904 then
            some (madeCells z.cells (zc.toNat * i.size), e, some (zl.toNat, zc.toNat))
          else none
        | none => none
      | none => none
    | _, _, _ => none
  | _ => none
def ghostV (b : Nat) : Option (Nat × Nat) → Value
  | none => .pointer (some ⟨b, 0, none⟩)
  | some n => .slice (some ⟨b, 0, none⟩) n.1 n.2
inductive Cls where
  | pure
  | mem
  | ghost
def cls (t : Operand → Value) (o : Oper) : Cls := match o.op with
  | .load _ _ => .mem
  | .slice _ x _ _ none => match t x with
    | .slice _ _ _ => .mem
    | _ => .pure
  | .alloc _ | .box _ _ | .buildSlice _ _ _ | .makeSlice _ _ _ => .ghost
  | .call ⟨.builtin .len, args, _⟩ => match args.toList with
    | [x] => match t x with
      | .map (some _) => .mem
      | _ => .pure
    | _ => .pure
  | _ => .pure
/-- what a quiet operation does -/
inductive QA where
  | val (v : Value)
  | ghost (c : Array Value) (e : TypeId) (k : Option (Nat × Nat))
def quietA (P : Program) (t : Operand → Value) (A : AW) (o : Oper) : Option QA := bif okOp o then match cls t o with
  | .pure => match opQ P t o with
    | some v => some (.val v)
    | none => none
  | .mem => match opM P t A o with
    | some v => some (.val v)
    | none => none
  | .ghost => match ghostA P t o with
    | some (c, e, k) => some (.ghost c e k)
    | none => none
  else none
/-- operations that look at memory -/
def memK (o : Oper) : Bool := match o.op with
  | .load _ _ => true
  | .slice _ _ _ _ _ => true
  | .call ⟨.builtin .len, _, _⟩ => true
  | _ => false
theorem quietA_mem {P : Program} {t : Operand → Value} {o : Oper} (h : memK o = false) (A A' : AW) : quietA P t A o = quietA P t A' o := by
  unfold quietA
  cases okOp o with
  | false => rfl
  | true =>
    simp only [cond_true]
    have hc : cls t o ≠ .mem := by
      unfold cls
      unfold memK at h
      split at h
      · cases h
      · cases h
      · cases h
      · rename_i h1 h2 h3
        split <;> first
          | (rename_i he; exact absurd he (h1 _ _))
          | (rename_i he; exact absurd he (h2 _ _ _ _ _))
          | (rename_i he; exact absurd he (h3 _ _))
          | (intro hx; cases hx; done)
    cases hq : cls t o with
    | mem => exact absurd hq hc
    | _ => rfl
/-- a memory with more in it -/
def AW.le (A A' : AW) : Prop := ∀ b x, A.heap.get b = some x → A'.heap.get b = some x
theorem cellsA_le {A A' : AW} (h : A.le A') {b o n : Nat} {l : List Value} (hc : cellsA A b o n = some l) : cellsA A' b o n = some l := by
  unfold cellsA at hc ⊢
  cases hb : A.heap.get b with
  | none => rw [hb] at hc; cases hc
  | some x => rw [h b x hb]; rw [hb] at hc; exact hc
theorem loadL_le {P : Program} {A A' : AW} (h : A.le A') {ty : TypeId} {x : Value} {r : Held × Value} (hl : loadL P A ty x = some r) : loadL P A' ty x = some r := by
  unfold loadL at hl ⊢
  split at hl
  · rename_i b o
    have key : ∀ n, cellsA A b o n = none ∨ cellsA A b o n = cellsA A' b o n := by
      intro n
      cases hc : cellsA A b o n with
      | none => exact .inl rfl
      | some l => exact .inr (cellsA_le h hc).symm
    split at hl
    · rename_i hu
      split at hl
      · rename_i i hi
        rcases key i.size with hk | hk
        · rw [hk] at hl; cases hl
        · rw [hk] at hl; exact hl
      · cases hl
    · rename_i hu
      split at hl
      · rename_i i hi
        rcases key i.size with hk | hk
        · rw [hk] at hl; cases hl
        · rw [hk] at hl; exact hl
      · cases hl
    · rename_i d h1 h2 hu
      rcases key 1 with hk | hk
      · rw [hk] at hl; cases hl
      · rw [hk] at hl; exact hl
    · cases hl
  · cases hl
theorem sliceA_le {P : Program} {A A' : AW} (h : A.le A') {ty : TypeId} {x : Value} {lo hi : Option Value} {v : Value} (hl : sliceA P ty x lo hi A = some v) : sliceA P ty x lo hi A' = some v := by
  unfold sliceA at hl ⊢
  split at hl
  · rename_i e a n c hu
    split at hl
    · rename_i i l k h1 h2 h3
      cases hq : Nat.ble l k && Nat.ble k c with
      | false => rw [hq] at hl; cases hl
      | true =>
        rw [hq, cond_true] at hl
        rw [cond_true]
        split at hl
        · exact hl
        · rename_i b o
          cases hb : A.heap.get b with
          | none => rw [hb] at hl; cases hl
          | some y => rw [h b y hb]; rw [hb] at hl; exact hl
        · cases hl
    · cases hl
  · cases hl

def putA (t : Array Value) (d : Option Tmp) (v : Value) : Array Value := match d with
  | some d => t.setIfInBounds d v
  | none => t
def glOp (gl : Nat → Bool) (o : Oper) : Bool := o.op.operands.toList.all (glX gl)
def dstOk (t : Array Value) : Option Tmp → Bool
  | some d => Nat.blt d t.size
  | none => false
/-- what a call, or a round, ends with -/
def EndS (P : Program) (B : Nat) (w0 : Base) (ρ : Ren) (K : Value → AW → Prop) (e : Ending) (w' : World) : Prop := ∃ ρ' v v' A', e = .returned v' ∧ K v A' ∧ ρ.le ρ' ∧ SR P B w0 ρ' A' w' ∧ VR ρ' v v'
/-- a call's end, whatever the world -/
def CallS (P : Program) (B : Nat) (w0 : Base) (f : FuncId) (args : Array Value) (A : AW) (K : Value → AW → Prop) : Prop :=
  ∀ (Γ : Nat → ABk → Prop) (M : List Nat) (ρ : Ren) (w : World) (args' : Array Value), SR P B ((w0.but Γ).marked M) ρ A w → AR ρ args args' →
    Calls P f args' w (EndS P B ((w0.but Γ).marked M) ρ K)
/-- a round of a loop -/
def RoundW (P : Program) (B : Nat) (w0 : Base) (b : Nat) (tmps : Array Value) (assign body : Code) (A : AW) (K : Value → AW → Prop) : Prop :=
  ∀ (Γ : Nat → ABk → Prop) (M : List Nat) (ρ : Ren) (w : World) (tmps' : Array Value) (i : Info) (f : FuncId), SR P B ((w0.but Γ).marked M) ρ A w → ρ b = some i → AR ρ tmps tmps' →
    RoundIn Fence.wide 0 P i.g f tmps' assign body w (EndS P B ((w0.but Γ).marked M) ρ K)
/-- the entries that a walk over a map may come to next, where there are several, all of them old -/
def nextAll (x : Value) (A : AW) : List (Value × AW) :=
  match x with
  | .pointer (some ⟨r, 0, none⟩) => match A.heap.get r with
    | some ⟨.mapIter (some b) since seen last, false, false⟩ => match A.heap.get b with
      | some ⟨.map es clock, _, _⟩ => bif !seen.isEmpty && !es.isEmpty && es.toList.all (fun e => decide (last ≤ e.born)) then [] else
        bif (es.toList.filter fun e => !seen.contains e.born).all (fun e => Nat.blt e.born since) && Nat.ble 2 (es.toList.filter fun e => !seen.contains e.born).length then
          (es.toList.filter fun e => !seen.contains e.born).map fun e => (.tuple #[.bool true, e.key, e.val], A.put r (some ⟨.mapIter (some b) since (seen.push e.born) clock, false, false⟩))
        else []
      | _ => []
    | _ => []
  | _ => []
theorem SR.drawn {P : Program} {B : Nat} {w0 : Base} {ρ : Ren} {A : AW} {w : World} (hs : SR P B w0 ρ A w) : SR P B w0 ρ A w.drew :=
  ⟨hs.below.drew, hs.low, hs.dom, hs.room, hs.lt, hs.off, hs.blk, hs.apart, hs.glo, hs.marks⟩
theorem nextAll_sound {P : Program} {B : Nat} {w0 : Base} {ρ : Ren} {A : AW} {w : World} (h : SR P B w0 ρ A w) {x x' : Value} (hx : VR ρ x x') (ty : TypeId) (hne : nextAll x A ≠ []) :
    ∃ p ∈ nextAll x A, ∃ v' w', (Instr.next x' false ty).run P w = .ok v' w' ∧ SR P B w0 ρ p.2 w' ∧ VR ρ p.1 v' := by
  unfold nextAll at hne ⊢
  split at hne
  rotate_left
  · exact absurd rfl hne
  rename_i r
  split at hne
  rotate_left
  · exact absurd rfl hne
  rename_i b since seen last hr
  split at hne
  rotate_left
  · exact absurd rfl hne
  rename_i es clock f2 ro2 hb
  cases hx with
  | ptr hi =>
    rename_i i
    obtain ⟨m', q1, q2, hro⟩ := iter_at h hi hr
    rcases q2 with ⟨q2, _⟩ | ⟨b', j, q2, q3, q4⟩
    · cases q2
    · injection q2 with q2; subst q2 q4
      obtain ⟨es', q5, q6, _⟩ := map_at h q3 hb
      have hg1 : (getObj i.g).run P w = .ok (.mapIter (some j.g) since seen last) w := by simp [getObj, Sem.run, q1]
      have hg2 : (getObj j.g).run P w = .ok (.map es' clock) w := Go.MapKept.run_getObj_map q5
      have hsz := (EL.to q6).1
      simp only [Array.length_toList] at hsz
      have hemp : es'.isEmpty = es.isEmpty := by simp [Array.isEmpty, hsz]
      have hall : es'.all (fun e => decide (last ≤ e.born)) = es.toList.all (fun e => decide (last ≤ e.born)) := by
        rw [← Array.all_toList]; exact (EL.all (fun e e' he => by rw [he]) q6).symm
      cases hc : (!seen.isEmpty && !es.isEmpty && es.toList.all (fun e => decide (last ≤ e.born))) with
      | true => rw [hc] at hne; exact absurd rfl hne
      | false =>
        rw [hc, cond_false] at hne
        rw [cond_false]
        have hc' : (!seen.isEmpty && !es'.isEmpty && es'.all (fun e => decide (last ≤ e.born))) = false := by rw [hemp, hall]; exact hc
        have hfil := EL.filter (f := fun e => !seen.contains e.born) (fun e e' he => by rw [he]) q6
        have harr : es'.filter (fun e => !seen.contains e.born) = (es'.toList.filter fun e => !seen.contains e.born).toArray := by
          apply Array.toList_inj.1
          rw [Array.toList_filter]
        generalize hl : (es.toList.filter fun e => !seen.contains e.born) = l at hne hfil ⊢
        generalize hl' : (es'.toList.filter fun e => !seen.contains e.born) = l' at hfil harr
        cases hq : (l.all (fun e => Nat.blt e.born since) && Nat.ble 2 l.length) with
        | false => rw [hq] at hne; exact absurd rfl hne
        | true =>
          rw [cond_true]
          rw [Bool.and_eq_true] at hq
          have hlen := (EL.to hfil).1
          have h2 : 2 ≤ l'.length := by have := Nat.le_of_ble_eq_true hq.2; omega
          have hold : ∀ e ∈ l', e.born < since := by
            have := hq.1
            rw [EL.all (fun e e' he => by rw [he]) hfil] at this
            exact fun e he => Nat.le_of_ble_eq_true (List.all_eq_true.1 this e he)
          have ho : l'.toArray.filter (fun e => decide (e.born < since)) = l'.toArray := by
            apply Array.toList_inj.1
            rw [Array.toList_filter, List.filter_eq_self.2 fun e he => decide_eq_true (hold e he)]
          have hn : l'.toArray.filter (fun e => decide (since ≤ e.born)) = #[] := by
            apply Array.toList_inj.1
            rw [Array.toList_filter, List.filter_eq_nil_iff.2 fun e he => by have := hold e he; simp; omega]
          have hemp2 : l'.toArray.isEmpty = false := by
            simp [Array.isEmpty]
            intro e; rw [e] at h2; simp at h2
          obtain ⟨d, hd⟩ : ∃ d, d = w.tape w.drawn (.mapNext l'.length) % l'.length := ⟨_, rfl⟩
          have hdl : d < l'.length := by rw [hd]; exact Nat.mod_lt _ (by omega)
          have hdl2 : d < l.length := by omega
          have her : ER ρ l[d] l'[d] := (EL.to hfil).2 d _ _ (List.getElem?_eq_getElem hdl2) (List.getElem?_eq_getElem hdl)
          have q1d : w.drew.heap[i.g]? = some (.mapIter (some j.g) since seen last) := q1
          have hso : ∀ o, (setObj i.g o).run P w.drew = .ok () { w.drew with heap := w.drew.heap.setIfInBounds i.g o } := fun o => by simp [setObj, Sem.run, q1d]
          have hforced : (Question.mapNext l'.length).forced = false := by
            simp only [Question.forced, decide_eq_false_iff_not]; omega
          refine ⟨_, List.mem_map.2 ⟨l[d], List.getElem_mem hdl2, rfl⟩, .tuple #[.bool true, l'[d].key, l'[d].val], { w.drew with heap := w.drew.heap.setIfInBounds i.g (.mapIter (some j.g) since (seen.push l'[d].born) clock) }, ?_, ?_, VR.mkTuple (AR.push (AR.push (AR.one (.bool true)) her.1) her.2.1)⟩
          · unfold Instr.next
            simp only [Sem.run_bind, hg1, Result.andThen, hg2]
            rw [if_neg (by rw [show (!seen.isEmpty && !es'.isEmpty && es'.all fun x => decide (x.born ≥ last)) = false from hc']; decide)]
            rw [harr, hn, ho, hemp2]
            have hcand : ((if false = true then #[none] else #[]) ++ (l'.toArray ++ #[]).map some : Array (Option MapEntry)) = (l'.map some).toArray := by simp
            rw [hcand]
            have hsize : ((l'.map some).toArray : Array (Option MapEntry)).size = l'.length := by simp
            have hcut : (Question.mapNext l'.length).cut (w.tape w.drawn (.mapNext l'.length)) = d := by rw [hd]; rfl
            have hch : (choose (Question.mapNext l'.length)).run P w = .ok d w.drew := by
              rw [run_choose_drew, hforced, hcut]
              rfl
            have hget : ((l'.map some).toArray : Array (Option MapEntry))[d]? = some (some l'[d]) := by simp [hdl]
            rw [hsize]
            simp only [Sem.run_bind, hch, Result.andThen, hget, hso]
            rfl
          · rw [her.2.2]
            exact h.drawn.change hr hi hro (.miter hro (.inr ⟨b, j, rfl, q3, rfl⟩) _ _ _) rfl rfl rfl (by simp) (Go.MapKept.heap_set q1d).1 (Go.MapKept.heap_set q1d).2
/-- a walk over a map, whatever entry is next -/
def NextK (t : Operand → Value) (o : Oper) (A : AW) (K : Value → AW → Prop) : Prop := okOp o = true ∧ ∃ x, o.op = .next x false ∧ nextAll (t x) A ≠ [] ∧ ∀ p ∈ nextAll (t x) A, K p.1 p.2
/-- an operation that changes memory, or calls -/
def stepW (P : Program) (B : Nat) (w0 : Base) (t : Array Value) (o : Oper) (A : AW) (K : Value → AW → Prop) : Prop :=
  glOp w0.gl o = true ∧ match opA P (ev t) o A with
  | some (.val v, A') => K v A'
  | some (.skip, A') => K undef A'
  | some (.enter f args, A') => CallS P B w0 f args A' K
  | some (.round b tmps a c, A') => RoundW P B w0 b tmps a c A' K
  | none => NextK (ev t) o A K
/-- .. and one that does neither, or makes a block -/
def quietW (P : Program) (gl : Nat → Bool) (t : Array Value) (o : Oper) (A : AW) (K : Value → AW → Prop) : Prop :=
  glOp gl o = true ∧ match quietA P (ev t) A o with
  | some (.val v) => K v A
  | some (.ghost c e n) => A.room = true ∧ dstOk t o.dst = true ∧ K (ghostV A.next n) (A.add ⟨.cells c e (0, 0), false, false⟩)
  | none => False
def loudB (o : Oper) : Bool := match o.op with
  | .load _ _ | .alloc _ | .box _ _ | .buildSlice _ _ _ | .makeSlice _ _ _ => false
  | .slice _ _ _ _ none => false
  | .call ⟨.builtin .len, _, _⟩ | .call ⟨.builtin .min, _, _⟩ | .call ⟨.builtin .max, _, _⟩ => false
  | .convert src _ _ => Nat.beq src 9
  | .store _ _ _ | .call _ | .makeMap _ _ | .mapUpdate _ _ _ _ | .lookup _ _ _ _ | .range _ _ | .next _ _ | .entry _ | .insert _ _ _ _ | .slice _ _ _ _ _ => true
  | _ => false
/-- the operations of a region, in the text's order -/
def opsW (P : Program) (B : Nat) (w0 : Base) (ops : Array Oper) (K : Array Value → AW → Prop) : List Nat → Array Value → AW → Prop
  | [], t, A => K t A
  | i :: rest, t, A => match ops[i]? with
    | none => opsW P B w0 ops K rest t A
    | some o => bif Region.wanted o (yielded ops t) then
        (bif loudB o then stepW P B w0 t o A fun v A' => opsW P B w0 ops K rest (putA t o.dst v) A'
        else quietW P w0.gl t o A fun v A' => opsW P B w0 ops K rest (putA t o.dst v) A')
      else opsW P B w0 ops K rest (putA t o.dst undef) A
def holds (t : Array Value) (d : Option Tmp) (v : Value) : Prop := ∀ i x, d = some i → t[i]? = some x → x = v
/-- a region's plan -/
inductive PS where
  | quiet (i : Nat)
  | loud (i : Nat) (re : List Nat)
  | pair (i j : Nat) (ri rj : List Nat)
/-- what was read is read again -/
def againP (P : Program) (ops : Array Oper) (t : Array Value) (A : AW) (re : List Nat) : Prop := ∀ j ∈ re, ∀ o, ops[j]? = some o → Region.wanted o (yielded ops t) = true →
  ∃ v, quietA P (ev t) A o = some (.val v) ∧ holds t o.dst v
/-- a loud operation -/
def loudW (P : Program) (B : Nat) (w0 : Base) (ops : Array Oper) (i : Nat) (re : List Nat) (K : Array Value → AW → Prop) (t : Array Value) (A : AW) : Prop := match ops[i]? with
  | none => False
  | some o => bif Region.wanted o (yielded ops t) then stepW P B w0 t o A fun v A' => againP P ops (putA t o.dst v) A' re ∧ K (putA t o.dst v) A'
      else K (putA t o.dst undef) A
def planW (P : Program) (B : Nat) (w0 : Base) (ops : Array Oper) (K : Array Value → AW → Prop) : List PS → Array Value → AW → Prop
  | [], t, A => K t A
  | .quiet i :: s, t, A => match ops[i]? with
    | none => False
    | some o => bif Region.wanted o (yielded ops t) then quietW P w0.gl t o A fun v A' => planW P B w0 ops K s (putA t o.dst v) A'
      else planW P B w0 ops K s (putA t o.dst undef) A
  | .loud i re :: s, t, A => loudW P B w0 ops i re (planW P B w0 ops K s) t A
  | .pair i j ri rj :: s, t, A => loudW P B w0 ops i ri (loudW P B w0 ops j rj (planW P B w0 ops K s)) t A ∧ loudW P B w0 ops j rj (loudW P B w0 ops i ri (planW P B w0 ops K s)) t A

/-- .. and when it may be gone by -/
def looks (ops : Array Oper) (k : Nat) : List Tmp := match ops[k]? with
  | some o => o.looksAt ops
  | none => []
def dstAt (ops : Array Oper) (k : Nat) : Option Tmp := match ops[k]? with
  | some o => o.dst
  | none => none
def memN (l : List Tmp) (d : Tmp) : Bool := l.any fun x => Nat.beq x d
def namesB (ops : Array Oper) (k : Nat) (d : Tmp) : Bool := memN (looks ops k) d || (match dstAt ops k with | some x => Nat.beq x d | none => false)
def ancOf (anc : Nat → Nat) : List Edge → Nat
  | [] => 0
  | e :: es => bif Region.binds .any e then (ancOf anc es ||| 2 ^ e.on) ||| anc e.on else ancOf anc es
def ancOk (ops : Array Oper) (anc : Nat → Nat) : Bool := (List.range ops.size).all fun i => match ops[i]? with
  | some o => Nat.beq (anc i) (ancOf anc o.after.toList) && o.after.toList.all fun e => !Region.binds .any e || Nat.blt e.on i
  | none => true
def depsB (o : Oper) (E : Nat) : Bool := o.after.toList.all fun e => !Region.binds .any e || E.testBit e.on
def quietOk (ops : Array Oper) (anc : Nat → Nat) (E : Nat) (i : Nat) : Bool := match ops[i]? with
  | none => false
  | some o => !E.testBit i && depsB o E && (match o.dst with
      | none => true
      | some d => !memN (o.looksAt ops) d && (List.range ops.size).all fun k => !E.testBit k || !namesB ops k d) &&
    (List.range ops.size).all fun k => !E.testBit k || (anc i).testBit k || match dstAt ops k with
      | none => true
      | some d => !memN (o.looksAt ops) d
def loudOk (ops : Array Oper) (anc : Nat → Nat) (E : Nat) (i : Nat) (re : List Nat) (more : Nat) : Bool := match ops[i]? with
  | none => false
  | some o => !E.testBit i && depsB o E && (List.range ops.size).all fun k => bif E.testBit k then
      (anc i).testBit k || ((match dstAt ops k with | none => true | some d => !memN (o.looksAt ops) d) && (match o.dst with | none => true | some d => !namesB ops k d) &&
        (match ops[k]? with | some q => !memK q || memN re k | none => true))
    else Nat.beq k i || Nat.beq k more || (anc k).testBit i
def okPlan (ops : Array Oper) (anc : Nat → Nat) : List PS → Nat → Bool
  | [], E => (List.range ops.size).all fun k => E.testBit k
  | .quiet i :: s, E => quietOk ops anc E i && okPlan ops anc s (E ||| 2 ^ i)
  | .loud i re :: s, E => loudOk ops anc E i re i && okPlan ops anc s (E ||| 2 ^ i)
  | .pair i j ri rj :: s, E => (!Nat.beq i j && loudOk ops anc E i ri j && loudOk ops anc E j rj i) && (loudOk ops anc (E ||| 2 ^ i) j rj j && loudOk ops anc (E ||| 2 ^ j) i ri i) && okPlan ops anc s (E ||| 2 ^ i ||| 2 ^ j) && okPlan ops anc s (E ||| 2 ^ j ||| 2 ^ i)

theorem memN_iff {l : List Tmp} {d : Tmp} : memN l d = true ↔ d ∈ l := by
  unfold memN
  rw [List.any_eq_true]
  constructor
  · rintro ⟨x, h1, h2⟩; rw [← Tr.beq_iff.1 h2]; exact h1
  · intro h; exact ⟨d, h, Tr.beq_iff.2 rfl⟩
theorem testBit_or_pow (E i k : Nat) : (E ||| 2 ^ i).testBit k = (E.testBit k || decide (i = k)) := by
  rw [Nat.testBit_or, Nat.testBit_two_pow]

section
variable {P : Program} {B : Nat}
theorem eval_ev (t : Array Value) (ds : List Deferred) : (⟨t, ds⟩ : Act).eval = ev t := by
  funext x; cases x <;> rfl
theorem put_act (t : Array Value) (ds : List Deferred) (d : Option Tmp) (v : Value) : (⟨t, ds⟩ : Act).put d v = ⟨putA t d v, ds⟩ := by cases d <;> rfl
theorem putA_rel {ρ : Ren} {t t' : Array Value} (h : AR ρ t t') (d : Option Tmp) {v v' : Value} (hv : VR ρ v v') : AR ρ (putA t d v) (putA t' d v') := by
  cases d with
  | none => exact h
  | some d => exact h.set d hv
theorem undef_rel (ρ : Ren) : VR ρ undef undef := VR.mkTuple (AR.empty ρ)
theorem yielded_rel {ρ : Ren} {t t' : Array Value} (h : AR ρ t t') (ops : Array Oper) : yielded ops t = yielded ops t' := by
  funext j
  unfold yielded
  cases hd : (ops[j]?).bind (·.dst) with
  | none => rfl
  | some d =>
    simp only [Option.bind_some]
    rcases h.get? d with ⟨h1, h2⟩ | ⟨v, v', h1, h2, h3⟩
    · rw [h1, h2]
    · rw [h1, h2]; cases h3 <;> rfl
theorem glAll {gl : Nat → Bool} {o : Oper} (h : glOp gl o = true) {x : Operand} (hx : x ∈ o.op.operands) : glX gl x = true := List.all_eq_true.1 h x (Array.mem_toList_iff.2 hx)
theorem SR.rebase {w0 : Base} {ρ : Ren} {A : AW} {w : World} (h : SR P B w0 ρ A w) (Γ : Nat → ABk → Prop) (hoff : ∀ b x, Γ b x → ρ b = none ∧ A.heap.get b = some x) : SR P B (w0.but Γ) ρ A w :=
  ⟨h.below, h.low, h.dom, h.room, h.lt, hoff, h.blk, h.apart, h.glo, h.marks⟩
theorem semAt_run {r : Option Nat} {f : Operand → Value} {o : Oper} {n : Next} {w w' : World} (h : (execOp f o).run P w = .ok n w') (hn : ∀ d, n ≠ .defer d) : (o.semAt r f).run P w = .ok n w' := by
  rw [Oper.semAt_eq r f o ?_]
  · exact h
  · intro c hc
    unfold execOp at h
    rw [hc] at h
    simp only [Sem.run_bind] at h
    cases hr : (resolve f c o.type).run P w with
    | ok d w2 =>
      rw [hr] at h
      simp only [Result.andThen] at h
      injection h with h
      exact hn d h.symm
    | halt x w2 =>
      rw [hr] at h
      cases h
theorem callsIn_at (w0 : Base) {m : Nat} {f : FuncId} {args : Array Value} {w : World} {R : Ending → World → Prop} (h : Calls P f args w R) : CallsIn w0.F m P f args w R := callsIn_wide.2 h
theorem roundIn_at (w0 : Base) {l : Nat} {f : FuncId} {tmps : Array Value} {a c : Code} {w : World} {R : Ending → World → Prop} (h : RoundIn Fence.wide 0 P l f tmps a c w R) : RoundIn w0.F (0 - 1) P l f tmps a c w R := h
theorem step_sound (G : Good P) {w0 : Base} {Γ : Nat → ABk → Prop} {ρ : Ren} {A : AW} {w : World} (h : SR P B (w0.but Γ) ρ A w) {t t' : Array Value} (ds : List Deferred) {o : Oper} (ht : okOp o = true → ∀ x ∈ o.op.operands, VR ρ (ev t x) (ev t' x)) {J : Value → AW → Prop} (ha : stepW P B w0 t o A J)
    {K : Act → World → Prop} {Q : Exit → Act → World → Prop} (hK : ∀ ρ' v v' A' w', J v A' → ρ.le ρ' → SR P B (w0.but Γ) ρ' A' w' → VR ρ' v v' → K ⟨putA t' o.dst v', ds⟩ w') : o.wpIn w0.F 0 P ⟨t', ds⟩ w K Q := by
  have ha := ha.2
  cases hq : opA P (ev t) o A with
  | none =>
    rw [hq] at ha
    obtain ⟨hk, x, hop, hne, hall⟩ := ha
    have hx := ht hk x (by rw [hop]; simp [Op.operands])
    obtain ⟨p, hp, v', w', g1, g2, g3⟩ := nextAll_sound h hx o.type hne
    have g0 : (execOp (ev t') o).run P w = .ok (.value v') w' := by
      obtain ⟨dst, op, type, pos, after, guard⟩ := o
      dsimp only at hop g1
      subst hop
      show (do pure (Next.value (← Instr.next (ev t' x) false type)) : Sem Next).run P w = _
      simp only [Bind.bind]
      rw [run_bind P _ _ w w' v' g1]
      rfl
    refine ⟨fun _ _ => trivial, ?_⟩
    rw [semAt_run (by rw [eval_ev]; exact g0) (fun d hd => by cases hd), Oper.uponIn_value, put_act]
    exact hK ρ p.1 v' p.2 w' (hall p hp) (Ren.le_refl _) g2 g3
  | some x =>
    obtain ⟨n, A1⟩ := x
    rw [hq] at ha
    obtain ⟨ρ', n', w', g1, g2, g3, g4⟩ := opA_sound (t' := ev t') G h ht hq
    refine ⟨fun _ _ => trivial, ?_⟩
    rw [semAt_run (by rw [eval_ev]; exact g1) (fun d hd => by subst hd; cases n <;> exact g4.elim)]
    cases n with
    | val v1 =>
      dsimp only at ha
      cases n' with
      | value v' =>
        rw [Oper.uponIn_value, put_act]
        exact hK ρ' v1 v' A1 w' ha g2 g3 g4
      | _ => exact g4.elim
    | skip =>
      dsimp only at ha
      cases n' with
      | skip =>
        rw [Oper.uponIn_skip, put_act]
        exact hK ρ' undef undef A1 w' ha g2 g3 (undef_rel ρ')
      | _ => exact g4.elim
    | enter f args =>
      dsimp only at ha
      cases n' with
      | enter f' args' =>
        obtain ⟨rfl, g5⟩ := g4
        rw [Oper.uponIn_enter]
        refine ⟨(fun h => by cases h), callsIn_at w0 ((ha Γ w0.mks ρ' w' args' g3 g5).mono ?_)⟩
        rintro e w2 ⟨ρ2, v, v', A2, rfl, q0, q1, q2, q3⟩
        show K ((⟨t', ds⟩ : Act).put o.dst v') w2
        rw [put_act]
        exact hK ρ2 v v' A2 w2 q0 (Ren.le_trans g2 q1) q2 q3
      | _ => exact g4.elim
    | round b tmps a c =>
      dsimp only at ha
      cases n' with
      | round l f tmps' a' c' =>
        obtain ⟨⟨i, g5, rfl⟩, g6, rfl, rfl⟩ := g4
        rw [Oper.uponIn_round]
        refine ⟨(fun h => by cases h), roundIn_at w0 ((ha Γ w0.mks ρ' w' tmps' i f g3 g5 g6).mono ?_)⟩
        rintro e w2 ⟨ρ2, v, v', A2, rfl, q0, q1, q2, q3⟩
        show K ((⟨t', ds⟩ : Act).put o.dst v') w2
        rw [put_act]
        exact hK ρ2 v v' A2 w2 q0 (Ren.le_trans g2 q1) q2 q3
      | _ => exact g4.elim
theorem evs_ok {gl : Nat → Bool} {ρ : Ren} (hG : GlR gl ρ) {t t' : Array Value} (h : AR ρ t t') {o : Oper} (hg : glOp gl o = true) (hk : okOp o = true) : ∀ x ∈ o.op.operands, VR ρ (ev t x) (ev t' x) := fun _ hx => ev_rel h hG (okAll hk hx) (glAll hg hx)
end
end Go.Proofs.YtnneooidkbhbeaaGreatDoor.Sim
