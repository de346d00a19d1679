/- A verified evaluator, part T: maps, made slices. Of no program. -/
import Derived.Test.YthnmadbfebjpkaaGreatDoorSimI
import Derived.MapKept
import Derived.Carry
import Derived.Laws.MakeOwn
namespace Go.Proofs.YthnmadbfebjpkaaGreatDoor.Sim
open Go Go.RowKit Go.MapKept

/-- a key of this kind -/
def keyT (d : TypeDesc) (k : Value) : Bool := match d, k with
  | .int k, .int k' _ => decide (k' = k)
  | .string, .string _ => true
  | _, _ => false
theorem keyT_is {d : TypeDesc} {k : Value} (h : keyT d k = true) : IsKey d k := by
  unfold keyT at h
  split at h
  · rename_i a b c
    have : b = a := of_decide_eq_true h
    exact this
  · trivial
  · cases h
theorem keyT_free {d : TypeDesc} {k : Value} (h : keyT d k = true) : leafFree k = true := by
  unfold keyT at h
  split at h
  · rfl
  · rfl
  · cases h
def okV (ok : Bool) (v : Value) (b : Bool) : Value := bif ok then .tuple #[v, .bool b] else v
def lookupA (P : Program) (ty : TypeId) (x k : Value) (ok : Bool) (A : AW) : Option Value :=
  match P.underlying ty with
  | some (.map kt e) => match P.underlying kt, P.info? e with
    | some d, some ie => match ie.zero with
      | some z => bif keyT d k then match x with
          | .map none => some (okV ok z false)
          | .map (some r) => match A.heap.get r with
            | some ⟨.map es _, _, _⟩ => match Instr.findNow d k es.toList 0 with
              | some (some (_, v)) => some (okV ok v true)
              | some none => some (okV ok z false)
              | none => none
            | _ => none
          | _ => none
        else none
      | none => none
    | _, _ => none
  | _ => none
def mapUpdateA (P : Program) (ty : TypeId) (x k v : Value) (A : AW) : Option AW :=
  match P.underlying ty with
  | some (.map kt _) => match P.underlying kt with
    | some d => bif keyT d k then match x with
        | .map (some r) => match A.heap.get r with
          | some ⟨.map es clock, false, false⟩ => match Instr.findNow d k es.toList 0 with
            | some (some (i, _)) => some (A.put r (some ⟨.map (es.modify i fun e => { e with key := k, val := v }) clock, false, false⟩))
            | some none => some (A.put r (some ⟨.map (es.push { key := k, val := v, born := clock }) (clock + 1), false, false⟩))
            | none => none
          | _ => none
        | _ => none
      else none
    | none => none
  | _ => none
def makeMapA (A : AW) : Option (Value × AW) := bif A.room then some (.map (some A.next), A.add ⟨.map #[] 0, false, false⟩) else none
def makeSliceA (P : Program) (ty : TypeId) (l c : Value) (A : AW) : Option (Value × AW) :=
  match P.underlying ty, l, c with
  | some (.slice e), .int _ zl, .int _ zc => match P.info? e with
    | some i => match i.zero with
      | some z => bif decide (0 ≤ zl) && decide (zl ≤ zc) && Nat.ble (zc.toNat * i.size) 16777216 && Nat.ble (i.bytes * zc.toNat) 281474976710656 && Nat.ble zc.toNat 4611686018427387904 && A.room then
          some (.slice (some ⟨A.next, 0, none⟩) zl.toNat zc.toNat, A.add ⟨.cells (madeCells z.cells (zc.toNat * i.size)) e (0, 0), false, false⟩)
        else none
      | none => none
    | none => none
  | _, _, _ => none

/-- lists of entries that are one -/
def EL (ρ : Ren) : List MapEntry → List MapEntry → Prop
  | [], [] => True
  | e :: l, e' :: l' => ER ρ e e' ∧ EL ρ l l'
  | _, _ => False
theorem EL.of {ρ : Ren} : ∀ {l l' : List MapEntry}, l.length = l'.length → (∀ (j : Nat) (e e' : MapEntry), l[j]? = some e → l'[j]? = some e' → ER ρ e e') → EL ρ l l'
  | [], [], _, _ => trivial
  | [], _ :: _, h, _ => by simp at h
  | _ :: _, [], h, _ => by simp at h
  | e :: l, e' :: l', h, hr => ⟨hr 0 e e' rfl rfl, EL.of (by simpa using h) fun j x x' h1 h2 => hr (j + 1) x x' (by simpa using h1) (by simpa using h2)⟩
theorem EL.to {ρ : Ren} : ∀ {l l' : List MapEntry}, EL ρ l l' → l.length = l'.length ∧ ∀ (j : Nat) (e e' : MapEntry), l[j]? = some e → l'[j]? = some e' → ER ρ e e'
  | [], [], _ => ⟨rfl, fun j e e' h => by simp at h⟩
  | [], _ :: _, h => h.elim
  | _ :: _, [], h => h.elim
  | e :: l, e' :: l', h => ⟨by simp [(EL.to h.2).1], fun j x x' h1 h2 => by
    cases j with
    | zero => simp at h1 h2; subst h1 h2; exact h.1
    | succ j => exact (EL.to h.2).2 j x x' (by simpa using h1) (by simpa using h2)⟩
theorem sameNow_plain {d : TypeDesc} {k e : Value} {b : Bool} (h : Instr.sameNow d k e = some b) : leafFree e = true := by
  unfold Instr.sameNow at h
  split at h
  · rfl
  · rfl
  · rfl
  · cases h
theorem sameNow_true {d : TypeDesc} {k e : Value} (h : Instr.sameNow d k e = some true) : e = k := by
  unfold Instr.sameNow at h
  split at h
  · rename_i k1 a k2 b
    split at h
    · rename_i hk
      injection h with h
      subst hk
      have : a = b := by simpa using h
      rw [this]
    · cases h
  · rename_i a b
    injection h with h
    rw [(bytes_beq a b).1 h]
  · rename_i a b
    injection h with h
    have : a = b := by simpa using h
    rw [this]
  · cases h
theorem findNow_rel {ρ : Ren} {d : TypeDesc} {k : Value} : ∀ {l l' : List MapEntry}, EL ρ l l' → ∀ {i : Nat} {r : Option (Nat × Value)}, Instr.findNow d k l i = some r →
    (r = none ∧ Instr.findNow d k l' i = some none) ∨ ∃ j v v' e, r = some (j, v) ∧ Instr.findNow d k l' i = some (some (j, v')) ∧ VR ρ v v' ∧ i ≤ j ∧ l[j - i]? = some e ∧ e.key = k
  | [], [], _, i, r, h => by
    simp only [Instr.findNow] at h
    injection h with h
    exact .inl ⟨h.symm, rfl⟩
  | [], _ :: _, h, _, _, _ => h.elim
  | _ :: _, [], h, _, _, _ => h.elim
  | e :: l, e' :: l', h, i, r, hf => by
    simp only [Instr.findNow] at hf ⊢
    cases hs : Instr.sameNow d k e.key with
    | none => rw [hs] at hf; cases hf
    | some b =>
      have hk : e'.key = e.key := leafFree_eq (sameNow_plain hs) h.1.1
      rw [hs] at hf
      rw [hk, hs]
      cases b with
      | true =>
        dsimp only at hf ⊢
        injection hf with hf
        exact .inr ⟨i, e.val, e'.val, e, hf.symm, rfl, h.1.2.1, Nat.le_refl _, by simp, sameNow_true hs⟩
      | false =>
        dsimp only at hf ⊢
        rcases findNow_rel h.2 hf with h1 | ⟨j, v, v', e2, h1, h2, h3, h4, h5, h6⟩
        · exact .inl h1
        · exact .inr ⟨j, v, v', e2, h1, h2, h3, by omega, by rw [show j - i = j - (i + 1) + 1 by omega, List.getElem?_cons_succ]; exact h5, h6⟩
section
variable {P : Program} {B : Nat} {w0 : Base} {ρ : Ren} {A : AW} {w : World}
theorem okV_rel {v v' : Value} (h : VR ρ v v') (ok b : Bool) : VR ρ (okV ok v b) (okV ok v' b) := by
  cases ok with
  | false => exact h
  | true => exact VR.mkTuple (AR.push (AR.one h) (.bool b))
theorem map_at (h : SR P B w0 ρ A w) {b : Nat} {i : Info} (hi : ρ b = some i) {es : Array MapEntry} {c : Nat} {f r : Bool} (hb : A.heap.get b = some ⟨.map es c, f, r⟩) : ∃ es', w.heap[i.g]? = some (.map es' c) ∧ EL ρ es.toList es'.toList ∧ i.ro = r := by
  obtain ⟨_, o', ho, hor⟩ := h.blk b _ i hb hi
  cases hor with
  | map hro hs hr => exact ⟨_, ho, EL.of (by simpa using hs) (fun j e e' h1 h2 => hr j e e' (by simpa using h1) (by simpa using h2)), hro⟩
theorem lookupA_sound (hz : Zeros P) (h : SR P B w0 ρ A w) {ty : TypeId} {x x' k k' : Value} {ok : Bool} (hx : VR ρ x x') (hk : VR ρ k k') {v : Value} (ha : lookupA P ty x k ok A = some v) : ∃ v', (Instr.lookup ty x' k' ok).run P w = .ok v' w ∧ VR ρ v v' := by
  unfold lookupA at ha
  split at ha
  rotate_left
  · cases ha
  rename_i kt e hu
  split at ha
  rotate_left
  · cases ha
  rename_i d ie hd hie
  split at ha
  rotate_left
  · cases ha
  rename_i z hzz
  cases hkt : keyT d k with
  | false => rw [hkt] at ha; cases ha
  | true =>
    rw [hkt, cond_true] at ha
    obtain rfl : k' = k := leafFree_eq (keyT_free hkt) hk
    have hzr : VR ρ z z := (hz e ie z hie hzz) ρ
    have hck : ∀ e, (Instr.checkKey e 10000 kt k').run P w = .ok () w := fun e => run_checkKey hd (keyT_is hkt) e 9999
    have hzv : (zeroValue e).run P w = .ok z w := by simp [zeroValue, typeInfo, hie, hzz, Result.andThen]
    have nilR : (Instr.lookup ty (.map none) k' ok).run P w = .ok (okV ok z false) w := by
      have hf : (Instr.findKey kt k' (#[] : Array MapEntry).toList).run P w = .ok none w := run_findKey hd rfl
      have hf' : (Instr.findKey kt k' []).run P w = .ok none w := hf
      cases ok <;> simp [Instr.lookup, run_underlying hu, Result.andThen, hck, hf', hzv, okV]
    have some_ : ∀ {g c : Nat} {es' : Array MapEntry} {r : Option (Nat × Value)}, w.heap[g]? = some (.map es' c) → Instr.findNow d k' es'.toList 0 = some r → (Instr.lookup ty (.map (some g)) k' ok).run P w = .ok (match r with | some (_, v) => okV ok v true | none => okV ok z false) w := by
      intro g c es' r h1 h2
      have hf := run_findKey (w := w) hd h2
      have hgo : (getObj g).run P w = .ok (.map es' c) w := Go.MapKept.run_getObj_map h1
      cases r with
      | none => cases ok <;> simp [Instr.lookup, run_underlying hu, Result.andThen, hgo, hck, hf, hzv, okV]
      | some jv => obtain ⟨j, v⟩ := jv; cases ok <;> simp [Instr.lookup, run_underlying hu, Result.andThen, hgo, hck, hf, okV]
    split at ha
    · injection ha with ha; subst ha
      cases hx
      exact ⟨_, nilR, okV_rel hzr ok false⟩
    · rename_i r
      split at ha
      rotate_left
      · cases ha
      rename_i es c f ro hb
      cases hx with
      | map hi =>
        obtain ⟨es', h1, h2, _⟩ := map_at h hi hb
        split at ha
        · rename_i j v1 hf
          injection ha with ha; subst ha
          rcases findNow_rel h2 hf with ⟨q1, _⟩ | ⟨j2, v2, v', e2, q1, q2, q3, _⟩
          · cases q1
          · injection q1 with q1; injection q1 with q1 q1'; subst q1 q1'
            exact ⟨_, some_ h1 q2, okV_rel q3 ok true⟩
        · rename_i hf
          injection ha with ha; subst ha
          rcases findNow_rel h2 hf with ⟨_, q2⟩ | ⟨j2, v2, v', e2, q1, _⟩
          · exact ⟨_, some_ h1 q2, okV_rel hzr ok false⟩
          · cases q1
        · cases ha
    · cases ha
theorem sameBits_key {d : TypeDesc} {k : Value} (h : keyT d k = true) : Instr.sameBits 10000 k k = true := by
  unfold keyT at h
  split at h
  · simp [Instr.sameBits]
  · simp only [Instr.sameBits]
    exact (bytes_beq _ _).2 rfl
  · cases h
theorem mapUpdateA_sound (h : SR P B w0 ρ A w) {ty : TypeId} {x x' k k' v v' : Value} (hx : VR ρ x x') (hk : VR ρ k k') (hv : VR ρ v v') {A' : AW} (ha : mapUpdateA P ty x k v A = some A') : ∃ w', (Instr.mapUpdate ty x' k' v').run P w = .ok () w' ∧ SR P B w0 ρ A' w' := by
  unfold mapUpdateA at ha
  split at ha
  rotate_left
  · cases ha
  rename_i kt e hu
  split at ha
  rotate_left
  · cases ha
  rename_i d hd
  cases hkt : keyT d k with
  | false => rw [hkt] at ha; cases ha
  | true =>
    rw [hkt, cond_true] at ha
    obtain rfl : k' = k := leafFree_eq (keyT_free hkt) hk
    split at ha
    rotate_left
    · cases ha
    rename_i b
    split at ha
    rotate_left
    · cases ha
    rename_i es c hb
    cases hx with
    | map hi =>
      rename_i i
      obtain ⟨es', h1, h2, hro⟩ := map_at h hi hb
      have hsz := (EL.to h2).1
      simp only [Array.length_toList] at hsz
      have hck : ∀ e, (Instr.checkKey e 10000 kt k').run P w = .ok () w := fun e => run_checkKey hd (keyT_is hkt) e 9999
      have hgo : (getObj i.g).run P w = .ok (.map es' c) w := Go.MapKept.run_getObj_map h1
      have hso : ∀ o, (setObj i.g o).run P w = .ok () { w with heap := w.heap.setIfInBounds i.g o } := fun o => Go.MapKept.run_setObj_map o h1
      have hchg : ∀ {y : ABk} {o' : Obj}, OR P ρ i y o' → SR P B w0 ρ (A.put b (some y)) { w with heap := w.heap.setIfInBounds i.g o' } := fun hor =>
        h.change hb hi hro hor rfl rfl rfl (by simp) (heap_set h1).1 (heap_set h1).2
      split at ha
      · rename_i j v1 hf
        injection ha with ha; subst ha
        rcases findNow_rel h2 hf with ⟨q1, _⟩ | ⟨j2, v2, v2', e2, q1, q2, q3, q4, q5, q6⟩
        · cases q1
        · injection q1 with q1; injection q1 with q1 q1'; subst q1 q1'
          have hfk := run_findKey (w := w) hd q2
          have hlt : j < es'.size := by
            have := (List.getElem?_eq_some_iff.1 q5).1
            simp only [Nat.sub_zero, Array.length_toList] at this
            omega
          have hold : ((es'[j]?).map (·.key)).getD k' = k' := by
            have e1 : es'.toList[j]? = some es'[j] := by rw [Array.getElem?_toList]; exact Array.getElem?_eq_getElem hlt
            have e2' : es.toList[j]? = some e2 := by simpa using q5
            have := ((EL.to h2).2 j e2 es'[j] e2' e1).1
            rw [q6] at this
            have e3 : es'[j].key = k' := leafFree_eq (keyT_free hkt) this
            rw [Array.getElem?_eq_getElem hlt]
            exact e3
          refine ⟨_, ?_, hchg (.map (es' := es'.modify j fun e => { e with key := k', val := v' }) hro (by simp [hsz]) (fun p e e' g1 g2 => ?_))⟩
          · simp [Instr.mapUpdate, run_underlying hu, Result.andThen, hgo, hck, hfk, Instr.keyThatStays, hold, sameBits_key hkt, hso]
          · rw [Array.getElem?_modify] at g1 g2
            by_cases hp : j = p
            · subst hp
              rw [if_pos rfl] at g1 g2
              cases ha1 : es[j]? with
              | none => rw [ha1] at g1; cases g1
              | some a1 =>
                cases ha2 : es'[j]? with
                | none => rw [ha2] at g2; cases g2
                | some a2 =>
                  rw [ha1] at g1
                  rw [ha2] at g2
                  injection g1 with g1
                  injection g2 with g2
                  subst g1 g2
                  have := (EL.to h2).2 j a1 a2 (by rw [Array.getElem?_toList]; exact ha1) (by rw [Array.getElem?_toList]; exact ha2)
                  exact ⟨leafFree_rel ρ (keyT_free hkt), hv, this.2.2⟩
            · rw [if_neg hp] at g1 g2
              exact (EL.to h2).2 p e e' (by rw [Array.getElem?_toList]; exact g1) (by rw [Array.getElem?_toList]; exact g2)
      · rename_i hf
        injection ha with ha; subst ha
        rcases findNow_rel h2 hf with ⟨_, q2⟩ | ⟨j2, v2, v2', e2, q1, _⟩
        · have hfk := run_findKey (w := w) hd q2
          refine ⟨_, ?_, hchg (.map (es' := es'.push { key := k', val := v', born := c }) hro (by simp [hsz]) (fun p e e' g1 g2 => ?_))⟩
          · simp [Instr.mapUpdate, run_underlying hu, Result.andThen, hgo, hck, hfk, hso]
          · rw [Array.getElem?_push] at g1 g2
            rw [← hsz] at g2
            by_cases hp : p = es.size
            · rw [if_pos hp] at g1 g2
              injection g1 with g1
              injection g2 with g2
              subst g1 g2
              exact ⟨leafFree_rel ρ (keyT_free hkt), hv, rfl⟩
            · rw [if_neg hp] at g1 g2
              exact (EL.to h2).2 p e e' (by rw [Array.getElem?_toList]; exact g1) (by rw [Array.getElem?_toList]; exact g2)
        · cases q1
      · cases ha
theorem makeMapA_sound (h : SR P B w0 ρ A w) (ty : TypeId) {v : Value} {A' : AW} (ha : makeMapA A = some (v, A')) : ∃ ρ' v' w', (Instr.makeMap ty none).run P w = .ok v' w' ∧ ρ.le ρ' ∧ SR P B w0 ρ' A' w' ∧ VR ρ' v v' := by
  unfold makeMapA at ha
  cases hr : A.room with
  | false => rw [hr] at ha; cases ha
  | true =>
    rw [hr, cond_true] at ha
    injection ha with ha; injection ha with h1 h2; subst h1 h2
    refine ⟨ρ.more A.next ⟨w.heap.size, false, false, 0, 0⟩, _, _, run_makeMap ty w, Ren.le_more h.fresh, ?_, .map (Ren.more_self _ _ _)⟩
    refine h.new hr rfl rfl rfl (by simp) (Nat.le_trans h.low h.below.size) (heap_alloc w _).1 (fun k _ hk => (heap_alloc w _).2 k hk) (fun b y j hy hj => Nat.ne_of_lt (h.old hy hj)) h.mkNew (.map rfl rfl fun j e e' h1 => by simp at h1)
theorem makeSliceA_sound (hz : Zeros P) (h : SR P B w0 ρ A w) {ty : TypeId} {l l' c c' : Value} (hl : VR ρ l l') (hc : VR ρ c c') {v : Value} {A' : AW} (ha : makeSliceA P ty l c A = some (v, A')) : ∃ ρ' v' w', (Instr.makeSlice ty l' c').run P w = .ok v' w' ∧ ρ.le ρ' ∧ SR P B w0 ρ' A' w' ∧ VR ρ' v v' := by
  unfold makeSliceA at ha
  split at ha
  rotate_left
  · cases ha
  rename_i e kl zl kc zc hu
  cases hl
  cases hc
  split at ha
  rotate_left
  · cases ha
  rename_i i hi
  split at ha
  rotate_left
  · cases ha
  rename_i z hzz
  cases hq : (decide (0 ≤ zl) && decide (zl ≤ zc) && Nat.ble (zc.toNat * i.size) 16777216 && Nat.ble (i.bytes * zc.toNat) 281474976710656 && Nat.ble zc.toNat 4611686018427387904 && A.room) with
  | false => rw [hq] at ha; cases ha
  | true =>
    rw [hq, cond_true] at ha
    rw [Bool.and_eq_true, Bool.and_eq_true, Bool.and_eq_true, Bool.and_eq_true, Bool.and_eq_true] at hq
    obtain ⟨⟨⟨⟨⟨q1, q2⟩, q3⟩, q4⟩, q5⟩, hr⟩ := hq
    have q1 := of_decide_eq_true q1
    have q2 := of_decide_eq_true q2
    have q3 : zc.toNat * i.size ≤ 16777216 := Nat.le_of_ble_eq_true q3
    have q4 : i.bytes * zc.toNat ≤ 281474976710656 := Nat.le_of_ble_eq_true q4
    have q5 : zc.toNat ≤ 4611686018427387904 := Nat.le_of_ble_eq_true q5
    injection ha with ha; injection ha with h1 h2; subst h1 h2
    have hzc : (zc.toNat : Int) = zc := by omega
    have q4' : (i.bytes : Int) * zc ≤ 281474976710656 := by
      rw [← hzc, ← Int.natCast_mul]
      omega
    have hrun := run_makeSlice (P := P) (w := w) ty e i z hu hi hzz kl kc zl zc q1 q2 q3 q4' (by omega)
    refine ⟨ρ.more A.next ⟨w.heap.size, false, false, 0, 0⟩, _, _, hrun, Ren.le_more h.fresh, ?_, .slice (Ren.more_self _ _ _) (.inl ⟨rfl, rfl⟩)⟩
    have hcells : AR (ρ.more A.next ⟨w.heap.size, false, false, 0, 0⟩) (madeCells z.cells (zc.toNat * i.size)) (madeCells z.cells (zc.toNat * i.size)) := by
      have hzr : AR (ρ.more A.next ⟨w.heap.size, false, false, 0, 0⟩) z.cells z.cells := ((hz e i z hi hzz) _).cells
      unfold madeCells
      refine AR.map _ fun x => ?_
      by_cases hx : x % z.cells.size < z.cells.size
      · rw [getElem!_pos z.cells _ hx]
        exact hzr.2 _ hx hx
      · rw [getElem!_neg z.cells _ hx]
        exact free_rel _ rfl
    exact h.new hr rfl rfl rfl (by simp) (Nat.le_trans h.low h.below.size) (heap_alloc w _).1 (fun k _ hk => (heap_alloc w _).2 k hk) (fun b y j hy hj => Nat.ne_of_lt (h.old hy hj)) h.mkNew (.exact rfl rfl hcells rfl)

/-- a walk over a map -/
def rangeA (P : Program) (ty : TypeId) (x : Value) (A : AW) : Option (Value × AW) :=
  match P.underlying ty with
  | some (.map _ _) => bif A.room then match x with
      | .map none => some (.pointer (some ⟨A.next, 0, none⟩), A.add ⟨.mapIter none 0 #[] 0, false, false⟩)
      | .map (some r) => match A.heap.get r with
        | some ⟨.map _ c, _, _⟩ => some (.pointer (some ⟨A.next, 0, none⟩), A.add ⟨.mapIter (some r) c #[] c, false, false⟩)
        | _ => none
      | _ => none
    else none
  | some .string => bif A.room then match x with
      | .string s => some (.pointer (some ⟨A.next, 0, none⟩), A.add ⟨.stringIter s 0, false, false⟩)
      | _ => none
    else none
  | _ => none
/-- .. over a string -/
def nextSA (x : Value) (A : AW) : Option (Value × AW) :=
  match x with
  | .pointer (some ⟨r, 0, none⟩) => match A.heap.get r with
    | some ⟨.stringIter s p, false, false⟩ => bif Nat.blt p s.size then some (.tuple #[.bool true, .int .i64 (p : Int), .int .i32 ((Utf8.decode s p).1 : Int)], A.put r (some ⟨.stringIter s (p + (Utf8.decode s p).2), false, false⟩)) else some (.tuple #[.bool false], A)
    | _ => none
  | _ => none
def nextA (x : Value) (A : AW) : Option (Value × AW) :=
  match x with
  | .pointer (some ⟨r, 0, none⟩) => match A.heap.get r with
    | some ⟨.mapIter none _ _ _, _, _⟩ => some (.tuple #[.bool false], A)
    | some ⟨.mapIter (some b) since seen last, false, false⟩ => match A.heap.get b with
      | some ⟨.map es clock, _, _⟩ => bif !seen.isEmpty && !es.isEmpty && es.toList.all (fun e => decide (last ≤ e.born)) then none else
        match es.toList.filter fun e => !seen.contains e.born with
        | [] => some (.tuple #[.bool false], A)
        | [e] => bif Nat.blt e.born since then some (.tuple #[.bool true, e.key, e.val], A.put r (some ⟨.mapIter (some b) since (seen.push e.born) clock, false, false⟩)) else none
        | _ => none
      | _ => none
    | _ => none
  | _ => none
def entryA (x : Value) (A : AW) : Option Value :=
  match x with
  | .pointer (some ⟨r, 0, none⟩) => match A.heap.get r with
    | some ⟨.mapIter (some b) _ seen stepped, _, _⟩ => match seen.back?, A.heap.get b with
      | some st, some ⟨.map es clock, _, _⟩ => bif Nat.beq clock stepped then match es.toList.find? (fun e => e.born == st) with
          | some e => some (.tuple #[e.key, e.val])
          | none => none
        else none
      | _, _ => none
    | _ => none
  | _ => none
def deleteA (P : Program) (ty : TypeId) (x k : Value) (A : AW) : Option AW :=
  match P.underlying ty with
  | some (.map kt _) => match P.underlying kt with
    | some d => bif keyT d k then match x with
        | .map none => some A
        | .map (some r) => match A.heap.get r with
          | some ⟨.map es clock, false, false⟩ => match Instr.findNow d k es.toList 0 with
            | some (some (i, _)) => some (A.put r (some ⟨.map (es.eraseIdxIfInBounds i) clock, false, false⟩))
            | some none => some (A.put r (some ⟨.map es clock, false, false⟩))
            | none => none
          | _ => none
        | _ => none
      else none
    | none => none
  | _ => none
theorem EL.filter {ρ : Ren} {f : MapEntry → Bool} (hf : ∀ e e' : MapEntry, e.born = e'.born → f e = f e') : ∀ {l l' : List MapEntry}, EL ρ l l' → EL ρ (l.filter f) (l'.filter f)
  | [], [], _ => trivial
  | [], _ :: _, h => h.elim
  | _ :: _, [], h => h.elim
  | e :: l, e' :: l', h => by
    have := EL.filter hf h.2
    rw [List.filter_cons, List.filter_cons, hf e e' h.1.2.2]
    cases f e' with
    | true => exact ⟨h.1, this⟩
    | false => exact this
theorem EL.all {ρ : Ren} {f : MapEntry → Bool} (hf : ∀ e e' : MapEntry, e.born = e'.born → f e = f e') : ∀ {l l' : List MapEntry}, EL ρ l l' → l.all f = l'.all f
  | [], [], _ => rfl
  | [], _ :: _, h => h.elim
  | _ :: _, [], h => h.elim
  | e :: l, e' :: l', h => by rw [List.all_cons, List.all_cons, hf e e' h.1.2.2, EL.all hf h.2]
theorem EL.find {ρ : Ren} {f : MapEntry → Bool} (hf : ∀ e e' : MapEntry, e.born = e'.born → f e = f e') : ∀ {l l' : List MapEntry}, EL ρ l l' → ∀ {e : MapEntry}, l.find? f = some e → ∃ e', l'.find? f = some e' ∧ ER ρ e e'
  | [], [], _, e, h => by cases h
  | [], _ :: _, h, _, _ => h.elim
  | _ :: _, [], h, _, _ => h.elim
  | a :: l, a' :: l', h, e, hq => by
    rw [List.find?_cons] at hq ⊢
    rw [← hf a a' h.1.2.2]
    cases hfa : f a with
    | true => rw [hfa] at hq; injection hq with hq; subst hq; exact ⟨a', rfl, h.1⟩
    | false => rw [hfa] at hq; exact EL.find hf h.2 hq
theorem rangeA_sound (h : SR P B w0 ρ A w) {ty : TypeId} {x x' : Value} (hx : VR ρ x x') {v : Value} {A' : AW} (ha : rangeA P ty x A = some (v, A')) : ∃ ρ' v' w', (Instr.range ty x').run P w = .ok v' w' ∧ ρ.le ρ' ∧ SR P B w0 ρ' A' w' ∧ VR ρ' v v' := by
  unfold rangeA at ha
  split at ha
  rotate_left
  · rename_i hu
    cases hr : A.room with
    | false => rw [hr] at ha; cases ha
    | true =>
      rw [hr, cond_true] at ha
      split at ha
      · rename_i s
        injection ha with ha; injection ha with h1 h2; subst h1 h2
        cases hx
        have hle := Ren.le_more (i := ⟨w.heap.size, false, false, 0, 0⟩) h.fresh
        refine ⟨_, .pointer (some ⟨w.heap.size, 0, none⟩), w.alloc (.stringIter s 0), by simp [Instr.range, run_underlying hu, Result.andThen], hle, ?_, .ptr (Ren.more_self _ _ _)⟩
        exact h.new hr rfl rfl rfl (by simp) (Nat.le_trans h.low h.below.size) (heap_alloc w _).1 (fun k _ hk => (heap_alloc w _).2 k hk) (fun b y j hy hj => Nat.ne_of_lt (h.old hy hj)) h.mkNew (.siter rfl s 0)
      · cases ha
  · cases ha
  rename_i kt e hu
  cases hr : A.room with
  | false => rw [hr] at ha; cases ha
  | true =>
    rw [hr, cond_true] at ha
    have fin : ∀ {m m' : Option Nat} {c : Nat}, MR ρ m m' → (Instr.range ty x').run P w = .ok (.pointer (some ⟨w.heap.size, 0, none⟩)) (w.alloc (.mapIter m' c #[] c)) →
        ∃ ρ' v' w', (Instr.range ty x').run P w = .ok v' w' ∧ ρ.le ρ' ∧ SR P B w0 ρ' (A.add ⟨.mapIter m c #[] c, false, false⟩) w' ∧ VR ρ' (.pointer (some ⟨A.next, 0, none⟩)) v' := by
      intro m m' c hm hrun
      have hle := Ren.le_more (i := ⟨w.heap.size, false, false, 0, 0⟩) h.fresh
      refine ⟨_, _, _, hrun, hle, ?_, .ptr (Ren.more_self _ _ _)⟩
      exact h.new hr rfl rfl rfl (by simp) (Nat.le_trans h.low h.below.size) (heap_alloc w _).1 (fun k _ hk => (heap_alloc w _).2 k hk) (fun b y j hy hj => Nat.ne_of_lt (h.old hy hj)) h.mkNew (.miter rfl (hm.mono hle) _ _ _)
    split at ha
    · injection ha with ha; injection ha with h1 h2; subst h1 h2
      cases hx
      exact fin (.inl ⟨rfl, rfl⟩) (by simp [Instr.range, run_underlying hu, Result.andThen])
    · rename_i b
      split at ha
      · rename_i es c f ro hb
        injection ha with ha; injection ha with h1 h2; subst h1 h2
        cases hx with
        | map hi =>
          rename_i i
          obtain ⟨es', q1, q2, _⟩ := map_at h hi hb
          have hgo : (getObj i.g).run P w = .ok (.map es' c) w := Go.MapKept.run_getObj_map q1
          exact fin (.inr ⟨b, i, rfl, hi, rfl⟩) (by simp [Instr.range, run_underlying hu, Result.andThen, hgo])
      · cases ha
    · cases ha
theorem iter_at (h : SR P B w0 ρ A w) {b : Nat} {i : Info} (hi : ρ b = some i) {m : Option Nat} {s l : Nat} {seen : Array Nat} {f r : Bool} (hb : A.heap.get b = some ⟨.mapIter m s seen l, f, r⟩) : ∃ m', w.heap[i.g]? = some (.mapIter m' s seen l) ∧ MR ρ m m' ∧ i.ro = r := by
  obtain ⟨_, o', ho, hor⟩ := h.blk b _ i hb hi
  cases hor with
  | miter hro hm a b c => exact ⟨_, ho, hm, hro⟩
theorem entryA_sound (h : SR P B w0 ρ A w) {x x' : Value} (hx : VR ρ x x') {v : Value} (ha : entryA x A = some v) : ∃ v', (Instr.entry x').run P w = .ok v' w ∧ VR ρ v v' := by
  unfold entryA at ha
  split at ha
  rotate_left
  · cases ha
  rename_i r
  split at ha
  rotate_left
  · cases ha
  rename_i b s seen stepped f ro hr
  split at ha
  rotate_left
  · cases ha
  rename_i st es clock f2 ro2 hst hb
  cases hq : Nat.beq clock stepped with
  | false => rw [hq] at ha; cases ha
  | true =>
    rw [hq, cond_true] at ha
    obtain rfl := Tr.beq_iff.1 hq
    cases hf : es.toList.find? (fun e => e.born == st) with
    | none => rw [hf] at ha; cases ha
    | some e =>
      rw [hf] at ha
      injection ha with ha; subst ha
      cases hx with
      | ptr hi =>
        rename_i i
        obtain ⟨m', q1, q2, _⟩ := iter_at h hi hr
        rcases q2 with ⟨q2, _⟩ | ⟨b', j, q2, q3, q4⟩
        · cases q2
        · injection q2 with q2; subst q2 q4
          obtain ⟨es', q5, q6, _⟩ := map_at h q3 hb
          obtain ⟨e', q7, q8⟩ := EL.find (fun e e' he => by rw [he]) q6 hf
          have hg1 : (getObj i.g).run P w = .ok (.mapIter (some j.g) s seen clock) w := by simp [getObj, Sem.run, q1]
          have hg2 : (getObj j.g).run P w = .ok (.map es' clock) w := Go.MapKept.run_getObj_map q5
          have hf' : es'.find? (fun e => e.born == st) = some e' := by rw [← Array.find?_toList]; exact q7
          refine ⟨.tuple #[e'.key, e'.val], ?_, VR.mkTuple (AR.push (AR.one q8.1) q8.2.1)⟩
          simp [Instr.entry, Result.andThen, hg1, hst, hg2, hf']
theorem nextSA_sound (h : SR P B w0 ρ A w) {x x' : Value} (hx : VR ρ x x') (ty : TypeId) {v : Value} {A' : AW} (ha : nextSA x A = some (v, A')) : ∃ v' w', (Instr.next x' true ty).run P w = .ok v' w' ∧ SR P B w0 ρ A' w' ∧ VR ρ v v' := by
  unfold nextSA at ha
  split at ha
  rotate_left
  · cases ha
  rename_i r
  split at ha
  rotate_left
  · cases ha
  rename_i s p hr
  cases hx with
  | ptr hi =>
    rename_i i
    obtain ⟨hB, o', hg, hor⟩ := h.blk r _ i hr hi
    cases hor with
    | siter hro =>
      have hg1 : (getObj i.g).run P w = .ok (.stringIter s p) w := by simp [getObj, Sem.run, hg]
      cases hq : Nat.blt p s.size with
      | false =>
        rw [hq, cond_false] at ha
        injection ha with ha; injection ha with h1 h2; subst h1 h2
        have hlt : ¬ p < s.size := fun hh => by rw [show Nat.blt p s.size = true from Nat.ble_eq_true_of_le hh] at hq; cases hq
        exact ⟨.tuple #[.bool false], w, by simp [Instr.next, Result.andThen, hg1, hlt], h, VR.mkTuple (AR.one (.bool false))⟩
      | true =>
        rw [hq, cond_true] at ha
        injection ha with ha; injection ha with h1 h2; subst h1 h2
        have hlt : p < s.size := Nat.le_of_ble_eq_true hq
        have hso : ∀ o, (setObj i.g o).run P w = .ok () { w with heap := w.heap.setIfInBounds i.g o } := fun o => by simp [setObj, Sem.run, hg]
        have hlg : i.g < w.heap.size := (Array.getElem?_eq_some_iff.1 hg).1
        refine ⟨.tuple #[.bool true, .int .i64 (p : Int), .int .i32 ((Utf8.decode s p).1 : Int)], { w with heap := w.heap.setIfInBounds i.g (.stringIter s (p + (Utf8.decode s p).2)) }, by simp [Instr.next, Result.andThen, hg1, hlt, hso, goInt], ?_, ?_⟩
        · exact h.change hr hi hro (.siter hro s _) rfl rfl rfl (by simp) (by simp [hlg]) (fun k hk => by simp [Ne.symm hk])
        · exact VR.mkTuple ((AR.one (.bool true)).push (.int _ _) |>.push (.int _ _))
theorem nextA_sound (h : SR P B w0 ρ A w) {x x' : Value} (hx : VR ρ x x') (ty : TypeId) {v : Value} {A' : AW} (ha : nextA x A = some (v, A')) : ∃ v' w', (Instr.next x' false ty).run P w = .ok v' w' ∧ SR P B w0 ρ A' w' ∧ VR ρ v v' := by
  unfold nextA at ha
  split at ha
  rotate_left
  · cases ha
  rename_i r
  have hover : VR ρ (.tuple #[.bool false]) (.tuple #[.bool false]) := VR.mkTuple (AR.one (.bool false))
  split at ha
  · rename_i s seen l f ro hr
    injection ha with ha; injection ha with h1 h2; subst h1 h2
    cases hx with
    | ptr hi =>
      rename_i i
      obtain ⟨m', q1, q2, _⟩ := iter_at h hi hr
      rcases q2 with ⟨_, rfl⟩ | ⟨b', j, q2, _⟩
      · have hg1 : (getObj i.g).run P w = .ok (.mapIter none s seen l) w := by simp [getObj, Sem.run, q1]
        exact ⟨_, w, by simp [Instr.next, Result.andThen, hg1], h, hover⟩
      · cases q2
  · rename_i b since seen last hr
    split at ha
    rotate_left
    · cases ha
    rename_i es clock f2 ro2 hb
    cases hx with
    | ptr hi =>
      rename_i i
      obtain ⟨m', q1, q2, hro⟩ := iter_at h hi hr
      rcases q2 with ⟨q2, _⟩ | ⟨b', j, q2, q3, q4⟩
      · cases q2
      · injection q2 with q2; subst q2 q4
        obtain ⟨es', q5, q6, _⟩ := map_at h q3 hb
        have hg1 : (getObj i.g).run P w = .ok (.mapIter (some j.g) since seen last) w := by simp [getObj, Sem.run, q1]
        have hg2 : (getObj j.g).run P w = .ok (.map es' clock) w := Go.MapKept.run_getObj_map q5
        have hso : ∀ o, (setObj i.g o).run P w = .ok () { w with heap := w.heap.setIfInBounds i.g o } := fun o => by simp [setObj, Sem.run, q1]
        have hsz := (EL.to q6).1
        simp only [Array.length_toList] at hsz
        have hemp : es'.isEmpty = es.isEmpty := by simp [Array.isEmpty, hsz]
        have hall : es'.all (fun e => decide (last ≤ e.born)) = es.toList.all (fun e => decide (last ≤ e.born)) := by
          rw [← Array.all_toList]; exact (EL.all (fun e e' he => by rw [he]) q6).symm
        cases hc : (!seen.isEmpty && !es.isEmpty && es.toList.all (fun e => decide (last ≤ e.born))) with
        | true => rw [hc] at ha; cases ha
        | false =>
          rw [hc, cond_false] at ha
          have hc' : (!seen.isEmpty && !es'.isEmpty && es'.all (fun e => decide (last ≤ e.born))) = false := by rw [hemp, hall]; exact hc
          have hfil := EL.filter (f := fun e => !seen.contains e.born) (fun e e' he => by rw [he]) q6
          have harr : es'.filter (fun e => !seen.contains e.born) = (es'.toList.filter fun e => !seen.contains e.born).toArray := by
            apply Array.toList_inj.1
            rw [Array.toList_filter]
          split at ha
          · rename_i hl
            rw [hl] at hfil
            have hl' : es'.filter (fun e => !seen.contains e.born) = #[] := by
              rw [harr]
              cases hq : (es'.toList.filter fun e => !seen.contains e.born) with
              | nil => rfl
              | cons a t => rw [hq] at hfil; exact hfil.elim
            injection ha with ha; injection ha with h1 h2; subst h1 h2
            refine ⟨_, w, ?_, h, hover⟩
            unfold Instr.next
            simp only [Sem.run_bind, hg1, Result.andThen, hg2]
            rw [if_neg (by rw [show (!seen.isEmpty && !es'.isEmpty && es'.all fun x => decide (x.born ≥ last)) = false from hc']; decide)]
            rw [hl']
            simp [choose, Sem.run, Question.forced, Result.andThen]
          · rename_i e hl
            rw [hl] at hfil
            obtain ⟨e', hl', her⟩ : ∃ e', es'.filter (fun e => !seen.contains e.born) = #[e'] ∧ ER ρ e e' := by
              rw [harr]
              cases hq : (es'.toList.filter fun e => !seen.contains e.born) with
              | nil => rw [hq] at hfil; exact hfil.elim
              | cons a t =>
                rw [hq] at hfil
                cases t with
                | nil => exact ⟨a, rfl, hfil.1⟩
                | cons b t => exact hfil.2.elim
            cases hlt : Nat.blt e.born since with
            | false => rw [hlt] at ha; cases ha
            | true =>
              rw [hlt, cond_true] at ha
              injection ha with ha; injection ha with h1 h2; subst h1 h2
              have hb1 : e.born < since := Nat.le_of_ble_eq_true hlt
              have hb2 : e'.born < since := by rw [← her.2.2]; exact hb1
              have hb3 : ¬ since ≤ e'.born := by omega
              refine ⟨.tuple #[.bool true, e'.key, e'.val], { w with heap := w.heap.setIfInBounds i.g (.mapIter (some j.g) since (seen.push e'.born) clock) }, ?_, ?_, VR.mkTuple (AR.push (AR.push (AR.one (.bool true)) her.1) her.2.1)⟩
              · unfold Instr.next
                simp only [Sem.run_bind, hg1, Result.andThen, hg2]
                rw [if_neg (by rw [show (!seen.isEmpty && !es'.isEmpty && es'.all fun x => decide (x.born ≥ last)) = false from hc']; decide)]
                rw [hl']
                simp [choose, Sem.run, Question.forced, Result.andThen, hb2, hb3, hso]
              · rw [her.2.2]
                exact h.change hr hi hro (.miter hro (.inr ⟨b, j, rfl, q3, rfl⟩) _ _ _) rfl rfl rfl (by simp) (heap_set q1).1 (heap_set q1).2
          · cases ha
  · cases ha
theorem deleteA_sound (h : SR P B w0 ρ A w) {ty : TypeId} (ku rt : TypeId) {x x' k k' : Value} (hx : VR ρ x x') (hk : VR ρ k k') {A' : AW} (ha : deleteA P ty x k A = some A') : ∃ w', (Builtin.delete_ #[ty, ku] rt #[x', k']).run P w = .ok (.tuple #[]) w' ∧ SR P B w0 ρ A' w' := by
  unfold deleteA at ha
  split at ha
  rotate_left
  · cases ha
  rename_i kt e hu
  split at ha
  rotate_left
  · cases ha
  rename_i d hd
  cases hkt : keyT d k with
  | false => rw [hkt] at ha; cases ha
  | true =>
    rw [hkt, cond_true] at ha
    obtain rfl : k' = k := leafFree_eq (keyT_free hkt) hk
    have hck : ∀ e, (Instr.checkKey e 10000 kt k').run P w = .ok () w := fun e => run_checkKey hd (keyT_is hkt) e 9999
    split at ha
    · injection ha with ha; subst ha
      cases hx
      exact ⟨w, by simp [Builtin.delete_, run_underlying hu, Result.andThen, hck], h⟩
    · rename_i b
      split at ha
      rotate_left
      · cases ha
      rename_i es c hb
      cases hx with
      | map hi =>
        rename_i i
        obtain ⟨es', h1, h2, hro⟩ := map_at h hi hb
        have hsz := (EL.to h2).1
        simp only [Array.length_toList] at hsz
        have hgo : (getObj i.g).run P w = .ok (.map es' c) w := Go.MapKept.run_getObj_map h1
        have hso : ∀ o, (setObj i.g o).run P w = .ok () { w with heap := w.heap.setIfInBounds i.g o } := fun o => Go.MapKept.run_setObj_map o h1
        have hchg : ∀ {y : ABk} {o' : Obj}, OR P ρ i y o' → SR P B w0 ρ (A.put b (some y)) { w with heap := w.heap.setIfInBounds i.g o' } := fun hor =>
          h.change hb hi hro hor rfl rfl rfl (by simp) (heap_set h1).1 (heap_set h1).2
        have hrel := (EL.to h2).2
        split at ha
        · rename_i j v1 hf
          injection ha with ha; subst ha
          rcases findNow_rel h2 hf with ⟨q1, _⟩ | ⟨j2, v2, v2', e2, q1, q2, q3, q4, q5, q6⟩
          · cases q1
          · injection q1 with q1; injection q1 with q1 q1'; subst q1 q1'
            have hfk := run_findKey (w := w) hd q2
            refine ⟨_, ?_, hchg (.map (es' := es'.eraseIdxIfInBounds j) hro ?_ (fun p e e' g1 g2 => ?_))⟩
            · simp [Builtin.delete_, run_underlying hu, Result.andThen, hgo, hck, hfk, hso]
            · have k1 : (es.eraseIdxIfInBounds j).toList = es.toList.eraseIdx j := by simp
              have k2 : (es'.eraseIdxIfInBounds j).toList = es'.toList.eraseIdx j := by simp
              rw [← Array.length_toList, ← Array.length_toList, k1, k2, List.length_eraseIdx, List.length_eraseIdx, Array.length_toList, Array.length_toList, hsz]
            · have k1 : (es.eraseIdxIfInBounds j).toList = es.toList.eraseIdx j := by simp
              have k2 : (es'.eraseIdxIfInBounds j).toList = es'.toList.eraseIdx j := by simp
              rw [← Array.getElem?_toList, k1, List.getElem?_eraseIdx] at g1
              rw [← Array.getElem?_toList, k2, List.getElem?_eraseIdx] at g2
              by_cases hp : p < j
              · rw [if_pos hp] at g1 g2; exact hrel p e e' g1 g2
              · rw [if_neg hp] at g1 g2; exact hrel (p + 1) e e' g1 g2
        · rename_i hf
          injection ha with ha; subst ha
          rcases findNow_rel h2 hf with ⟨_, q2⟩ | ⟨j2, v2, v2', e2, q1, _⟩
          · have hfk := run_findKey (w := w) hd q2
            refine ⟨_, ?_, hchg (.map (es' := es') hro hsz (fun p e e' g1 g2 => hrel p e e' (by rw [Array.getElem?_toList]; exact g1) (by rw [Array.getElem?_toList]; exact g2)))⟩
            simp [Builtin.delete_, run_underlying hu, Result.andThen, hgo, hck, hfk, hso]
          · cases q1
        · cases ha
    · cases ha
end
end Go.Proofs.YthnmadbfebjpkaaGreatDoor.Sim
