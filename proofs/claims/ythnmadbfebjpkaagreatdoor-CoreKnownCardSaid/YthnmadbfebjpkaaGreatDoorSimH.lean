/- A verified evaluator, part H: append. Of no program. -/
import Derived.Test.YthnmadbfebjpkaaGreatDoorSimG
namespace Go.Proofs.YthnmadbfebjpkaaGreatDoor.Sim
open Go Go.RowKit

/-- a row that is grown into a block of its own -/
def growA (A : AW) (e : TypeId) (l : List Value) (n : Nat) : Option (Value × AW) :=
  bif A.room then some (.slice (some ⟨A.next, 0, none⟩) n n, A.add ⟨.cells l.toArray e (0, 0), true, false⟩) else none
/-- what a slice grows by m elements to -/
def appendB (e : TypeId) (i : TypeInfo) (s : Value) (m : Nat) (news : List Value) (A : AW) : Option (Value × AW) :=
  match s with
  | .slice none n c => bif Nat.beq n 0 && Nat.beq c 0 then growA A e news m else none
  | .slice (some ⟨b, o, none⟩) n c =>
    match A.heap.get b with
    | some ⟨.cells c0 e' (0, 0), fam, false⟩ =>
      bif Nat.beq e' e then
        bif Nat.ble (n + m) c then
          bif Nat.beq o 0 && Nat.ble ((n + m) * i.size) c0.size then
            some (.slice (some ⟨b, 0, none⟩) (n + m) c, A.put b (some ⟨.cells (c0.toList.take (n * i.size) ++ news ++ c0.toList.drop (n * i.size + news.length)).toArray e (0, 0), fam, false⟩))
          else none
        else match cellsA A b o (n * i.size) with
          | some olds => bif fam then (bif Nat.beq o 0 then growA (A.put b none) e (olds ++ news) (n + m) else none) else growA A e (olds ++ news) (n + m)
          | none => none
      else none
    | _ => none
  | .slice (some ⟨b, o, some 0⟩) n _ => match cellsA A b o (n * i.size) with
    | some olds => growA A e (olds ++ news) (n + m)
    | none => none
  | _ => none
def appendA (P : Program) (argTypes : Array TypeId) (s x : Value) (A : AW) : Option (Value × AW) :=
  match argTypes.toList with
  | [t, u] => bif Nat.beq t u then
    match P.underlying t, s, x with
    | some (.slice e), .slice sb n c, .slice xb m _ =>
      match P.info? e with
      | some i => match i.zero with
        | some z =>
          bif Nat.beq m 0 then (bif Nat.ble n c then some (.slice sb n c, A) else none) else
          bif Nat.beq z.cells.size i.size && Nat.blt 0 i.size && Nat.ble ((n + m) * i.bytes) 1099511627776 && Nat.ble (n + m) 1099511627776 then
            match xb with
            | some ⟨b, o, none⟩ => match cellsA A b o (m * i.size) with
              | some news => bif news.all oneB then appendB e i (.slice sb n c) m news A else none
              | none => none
            | _ => none
          else none
        | none => none
      | none => none
    | _, _, _ => none
  else none
  | _ => none

section
variable {P : Program} {B : Nat} {w0 : Base} {ρ : Ren} {A : AW} {w : World}
theorem SR.old (h : SR P B w0 ρ A w) {b : Nat} {y : ABk} {j : Info} (hb : A.heap.get b = some y) (hj : ρ b = some j) : j.g < w.heap.size := by
  obtain ⟨_, oj, hoj, _⟩ := h.blk b y j hb hj
  exact (Array.getElem?_eq_some_iff.1 hoj).1
/-- .. at the heap's end -/
theorem SR.growEnd (h : SR P B w0 ρ A w) {e : TypeId} {ti : TypeInfo} (hti : P.info? e = some ti) {z : Value} (hz : z.cells.size = ti.size) (hpos : 0 < ti.size) {l l' : List Value} (hl : LR ρ l l') {n : Nat} (hn : l.length = n * ti.size) {cap : Nat} (hcap : n ≤ cap)
    {v : Value} {A' : AW} (hg : growA A e l n = some (v, A')) :
    ∃ ρ' v', ρ.le ρ' ∧ SR P B w0 ρ' A' (w.drew.alloc (.cells (l'.toArray ++ Builtin.zeroCells z.cells (cap - n)) e)) ∧ v' = .slice (some ⟨w.heap.size, 0, none⟩) n cap ∧ VR ρ' v v' := by
  unfold growA at hg
  cases hr : A.room with
  | false => rw [hr] at hg; cases hg
  | true =>
    rw [hr, cond_true] at hg
    injection hg with hg; injection hg with h1 h2; subst h1 h2
    have hs : (l'.toArray ++ Builtin.zeroCells z.cells (cap - n)).size = cap * ti.size := by
      rw [Array.size_append, List.size_toArray, size_zeroCells, hz, ← hl.1, hn, ← Nat.add_mul]
      congr 1; omega
    have hz2 : Builtin.zeroCells z.cells (cap - n) = (Builtin.zeroCells z.cells (cap - n)).toList.toArray := by simp
    have hgr := h.grown (g := w.heap.size) (w' := w.drew.alloc (.cells (l'.toArray ++ Builtin.zeroCells z.cells (cap - n)) e)) hr hti hl (rest := (Builtin.zeroCells z.cells (cap - n)).toList) cap (by rw [← hz2]; exact hs) rfl rfl rfl (by simp) (Nat.le_trans h.low h.below.size)
      (by rw [← hz2]; exact heap_alloc_new w.drew _) (fun k hk hlt => heap_alloc_old w.drew _ k hlt) (fun b y j hb hj => Nat.ne_of_lt (h.old hb hj)) h.mkNew
    exact ⟨_, _, Ren.le_more h.fresh, hgr, rfl, .slice (Ren.more_self _ _ _) (.inr ⟨rfl, hcap, by simp, hpos, .inl rfl⟩)⟩
theorem add0 (a : Addr) : a.add 0 = a := by unfold Addr.add; rw [if_pos rfl]
theorem appendB_sound (h : SR P B w0 ρ A w) {t ty e : TypeId} {ti : TypeInfo} {z : Value} (ht : P.underlying t = some (.slice e)) (hti : P.info? e = some ti) (hz0 : ti.zero = some z) (hz : z.cells.size = ti.size) (hpos : 0 < ti.size)
    {s s' : Value} (hs : VR ρ s s') {n c : Nat} {sb : Option Addr} (hsv : s = .slice sb n c) {m xc : Nat} {a : Addr} {l l' : List Value} (hl : LR ρ l l') (hlen : l.length = m * ti.size) (hone : l.all oneB = true) (hm : m ≠ 0)
    (hnews : ∀ (j : Nat) (u : Value), l'[j]? = some u → w.cell? (a.add j) = some u) (hb1 : (n + m) * ti.bytes ≤ 1099511627776) (hb2 : n + m ≤ 1099511627776)
    {v : Value} {A' : AW} (ha : appendB e ti s m l A = some (v, A')) :
    ∃ ρ' v' w', (Builtin.append_ #[t, t] ty #[s', .slice (some a) m xc]).run P w = .ok v' w' ∧ ρ.le ρ' ∧ SR P B w0 ρ' A' w' ∧ VR ρ' v v' := by
  subst hsv
  have hlen' : l'.length = m * ti.size := by rw [← hl.1]; exact hlen
  have hone' : ∀ u ∈ l', u.oneCell' = true := by
    intro u hu
    obtain ⟨j, hj, rfl⟩ := List.getElem_of_mem hu
    have hjl : j < l.length := by rw [hl.1]; exact hj
    exact oneB_rel (hl.2 j _ _ (List.getElem?_eq_getElem hjl) (List.getElem?_eq_getElem hj)) (List.all_eq_true.1 hone _ (List.getElem_mem hjl))
  cases hs with
  | nilSlice n c =>
    simp only [appendB] at ha
    cases hc : Nat.beq n 0 && Nat.beq c 0 with
    | false => rw [hc] at ha; cases ha
    | true =>
      rw [hc, cond_true] at ha
      rw [Bool.and_eq_true] at hc
      have hn : n = 0 := Tr.beq_iff.1 hc.1
      have hc0 : c = 0 := Tr.beq_iff.1 hc.2
      subst hn hc0
      have hr := run_append_nil (P := P) w t ty e ti z ht hti hz0 a m xc l' hlen' hnews (by omega) (by omega) (by have := hb1; rw [Nat.zero_add] at this; omega)
      obtain ⟨ρ', v', h1, h2, h3, h4⟩ := h.growEnd hti hz hpos hl hlen (grownCap_ge w m 0 e) ha
      exact ⟨ρ', v', _, by rw [h3]; exact hr, h1, h2, h4⟩
  | @edge b o i hi hl1 he1 ho1 hc1 =>
    exfalso
    simp only [appendB] at ha
    cases hb : A.heap.get b with
    | none => rw [hb] at ha; cases ha
    | some y =>
      rw [hb] at ha
      split at ha
      rotate_left
      · cases ha
      rename_i c0 e' fam heq
      injection heq with heq
      subst heq
      obtain ⟨hB, o', hg, hor⟩ := h.blk b _ i hb hi
      cases he : Nat.beq e' e with
      | false => rw [he] at ha; cases ha
      | true =>
        rw [he, cond_true] at ha
        have hfit : Nat.ble (0 + m) 0 = false := by
          cases hq : Nat.ble (0 + m) 0 with
          | false => rfl
          | true => have := Nat.le_of_ble_eq_true hq; omega
        rw [hfit, cond_false] at ha
        split at ha
        · cases fam with
          | true =>
            have : Nat.beq o 0 = false := Tr.beq_false (by omega)
            rw [cond_true, this] at ha
            cases ha
          | false => cases hor with | exact _ h2 _ _ => rw [hl1] at h2; cases h2
        · cases ha
  | @clip b o n i hi =>
    simp only [appendB] at ha
    cases hol : cellsA A b o (n * ti.size) with
    | none => rw [hol] at ha; cases ha
    | some olds =>
      rw [hol] at ha
      dsimp only at ha
      obtain ⟨olds', ho1, ho2⟩ := h.cells hi _ _ _ hol
      have holn : olds.length = n * ti.size := cellsA_len _ _ _ _ hol
      have holn' : olds'.length = n * ti.size := by rw [← ho1.1]; exact holn
      have ho3 : ∀ (j : Nat) (u : Value), olds'[j]? = some u → w.cell? ((⟨i.g, o, none⟩ : Addr).add j) = some u := fun j u hu => by rw [add_none]; exact ho2 j u hu
      have happ : LR ρ (olds ++ l) (olds' ++ l') := ho1.append hl
      have happn : (olds ++ l).length = (n + m) * ti.size := by rw [List.length_append, holn, hlen, ← Nat.add_mul]
      have hlt : n < n + m := by omega
      have hr := run_append_grow (P := P) w t ty e ti z ht hti hz0 ⟨i.g, o, none⟩ n n olds' holn' ho3 a m xc l' hlen' hnews hlt (by omega) (growslice_fits hlt (by omega))
      obtain ⟨ρ', v', h1, h2, h3, h4⟩ := h.growEnd hti hz hpos happ happn (grownCap_ge w (n + m) n e) ha
      refine ⟨ρ', v', _, ?_, h1, h2, h4⟩
      rw [h3, hr]
      simp
  | @slice b o n c c' i hi hc =>
    simp only [appendB] at ha
    cases hb : A.heap.get b with
    | none => rw [hb] at ha; cases ha
    | some y =>
      rw [hb] at ha
      split at ha
      rotate_left
      · cases ha
      rename_i c0 e' fam heq
      injection heq with heq
      subst heq
      obtain ⟨hB, o', hg, hor⟩ := h.blk b _ i hb hi
      have hgl : i.g < w.heap.size := (Array.getElem?_eq_some_iff.1 hg).1
      cases he : Nat.beq e' e with
      | false => rw [he] at ha; cases ha
      | true =>
        rw [he, cond_true] at ha
        have he' : e' = e := Tr.beq_iff.1 he
        subst he'
        have hro : i.ro = false := by cases hor <;> assumption
        have hB' : B ≤ i.g := by
          rcases hB with hB | hB
          · rw [hro] at hB; cases hB
          · exact hB
        -- the block's cells
        obtain ⟨c1, ho', hle, hrel⟩ : ∃ c1, o' = .cells c1 e' (0, 0) ∧ c0.size ≤ c1.size ∧ ∀ (j : Nat) (v : Value), c0[j]? = some v → ∃ v', c1[j]? = some v' ∧ VR ρ v v' := by
          cases hor with
          | exact h1 h2 h3 h4 => subst h4; exact ⟨_, rfl, by rw [h3.1]; exact Nat.le_refl _, fun j v hv => h3.at hv⟩
          | loose h1 h2 h3 h4 h5 h6 h7 => subst h6; exact ⟨_, rfl, h4, h5⟩
        subst ho'
        cases hfit : Nat.ble (n + m) c with
        | true =>
          rw [hfit, cond_true] at ha
          have hfit' : n + m ≤ c := Nat.le_of_ble_eq_true hfit
          cases hq : Nat.beq o 0 && Nat.ble ((n + m) * ti.size) c0.size with
          | false => rw [hq] at ha; cases ha
          | true =>
            rw [hq, cond_true] at ha
            rw [Bool.and_eq_true] at hq
            have ho0 : o = 0 := Tr.beq_iff.1 hq.1
            subst ho0
            have hroom : (n + m) * ti.size ≤ c0.size := Nat.le_of_ble_eq_true hq.2
            injection ha with ha; injection ha with h1 h2; subst h1 h2
            have hcc : c ≤ c' := by rcases hc with ⟨_, h1⟩ | ⟨_, h1, _⟩ <;> omega
            have hadd : n * ti.size + l'.length = (n + m) * ti.size := by rw [hlen', ← Nat.add_mul]
            have hr := run_append_room (P := P) w t ty e' ti ht hti i.g n c' c1 hg a m xc l' hlen' hnews hone' (by omega) (by omega)
            refine ⟨ρ, _, _, hr, Ren.le_refl _, ?_, .slice hi hc⟩
            have hs1 : (c0.toList.take (n * ti.size) ++ l ++ c0.toList.drop (n * ti.size + l.length)).toArray.size = c0.size := by
              have := hl.1
              simp only [List.size_toArray, List.length_append, List.length_take, List.length_drop, Array.length_toList]
              omega
            have hs2 : (c1.toList.take (n * ti.size) ++ l' ++ c1.toList.drop (n * ti.size + l'.length)).toArray.size = c1.size := by
              simp only [List.size_toArray, List.length_append, List.length_take, List.length_drop, Array.length_toList]
              omega
            have hpt : ∀ (j : Nat) (v : Value), (c0.toList.take (n * ti.size) ++ l ++ c0.toList.drop (n * ti.size + l.length)).toArray[j]? = some v → ∃ v', (c1.toList.take (n * ti.size) ++ l' ++ c1.toList.drop (n * ti.size + l'.length)).toArray[j]? = some v' ∧ VR ρ v v' := by
              intro j v hv
              simp only [List.getElem?_toArray] at hv ⊢
              have ll := hl.1
              have t0 : (c0.toList.take (n * ti.size)).length = n * ti.size := by rw [List.length_take, Array.length_toList]; omega
              have t1 : (c1.toList.take (n * ti.size)).length = n * ti.size := by rw [List.length_take, Array.length_toList]; omega
              rw [List.getElem?_append, List.length_append, t0] at hv
              rw [List.getElem?_append, List.length_append, t1]
              split at hv
              · rename_i hj1
                rw [if_pos (by omega)]
                rw [List.getElem?_append, t0] at hv
                rw [List.getElem?_append, t1]
                split at hv
                · rename_i hj2
                  rw [if_pos hj2, List.getElem?_take, if_pos hj2, Array.getElem?_toList]
                  rw [List.getElem?_take, if_pos hj2, Array.getElem?_toList] at hv
                  exact hrel j v hv
                · rename_i hj2
                  rw [if_neg hj2]
                  exact hl.at hv
              · rename_i hj1
                rw [if_neg (by omega)]
                rw [List.getElem?_drop, Array.getElem?_toList] at hv ⊢
                rw [← ll]
                exact hrel _ v hv
            have hor' : OR P ρ i ⟨.cells (c0.toList.take (n * ti.size) ++ l ++ c0.toList.drop (n * ti.size + l.length)).toArray e' (0, 0), fam, false⟩ (.cells (c1.toList.take (n * ti.size) ++ l' ++ c1.toList.drop (n * ti.size + l'.length)).toArray e' (0, 0)) := by
              cases hor with
              | exact h1 h2 h3 h4 =>
                refine .exact h1 h2 ⟨by rw [hs1, hs2]; exact h3.1, fun j hj hj' => ?_⟩ rfl
                obtain ⟨v', hv1, hv2⟩ := hpt j _ (Array.getElem?_eq_getElem hj)
                rw [Array.getElem?_eq_getElem hj'] at hv1
                injection hv1 with hv1
                rw [hv1]; exact hv2
              | loose h1 h2 h3 h4 h5 h6 h7 => exact .loose h1 h2 (by rw [hs2]; exact h3) (by rw [hs1, hs2]; exact h4) hpt rfl h7
            exact h.change hb hi hro hor' rfl rfl rfl (by simp) (setRow_heap w i.g c1 _ e' _ hg) (fun k hk => setRow_other w i.g k _ hk)
        | false =>
          rw [hfit, cond_false] at ha
          have hfit' : ¬ n + m ≤ c := fun hh => by rw [Nat.ble_eq_true_of_le hh] at hfit; cases hfit
          cases hol : cellsA A b o (n * ti.size) with
          | none => rw [hol] at ha; cases ha
          | some olds =>
            rw [hol] at ha
            dsimp only at ha
            obtain ⟨olds', ho1, ho2⟩ := h.cells hi _ _ _ hol
            have holn : olds.length = n * ti.size := cellsA_len _ _ _ _ hol
            have holn' : olds'.length = n * ti.size := by rw [← ho1.1]; exact holn
            have ho3 : ∀ (j : Nat) (u : Value), olds'[j]? = some u → w.cell? ((⟨i.g, o, none⟩ : Addr).add j) = some u := fun j u hu => by rw [add_none]; exact ho2 j u hu
            have happ : LR ρ (olds ++ l) (olds' ++ l') := ho1.append hl
            have happn : (olds ++ l).length = (n + m) * ti.size := by rw [List.length_append, holn, hlen, ← Nat.add_mul]
            have grow : ∀ (c2 : Nat), c2 < n + m → (Builtin.append_ #[t, t] ty #[.slice (some ⟨i.g, o, none⟩) n c2, .slice (some a) m xc]).run P w =
                .ok (.slice (some ⟨w.heap.size, 0, none⟩) (n + m) (grownCap w (n + m) c2 e')) (w.drew.alloc (.cells ((olds' ++ l').toArray ++ Builtin.zeroCells z.cells (grownCap w (n + m) c2 e' - (n + m))) e')) := by
              intro c2 h2
              have := run_append_grow (P := P) w t ty e' ti z ht hti hz0 ⟨i.g, o, none⟩ n c2 olds' holn' ho3 a m xc l' hlen' hnews h2 (by omega) (growslice_fits h2 (by omega))
              rw [this]
              simp
            cases fam with
            | false =>
              rw [cond_false] at ha
              have hc' : c' = c := by
                rcases hc with ⟨_, h1⟩ | ⟨h1, _⟩
                · exact h1
                · cases hor with | exact _ h2 _ _ => rw [h1] at h2; cases h2
              obtain ⟨ρ', v', h1, h2, h3, h4⟩ := h.growEnd hti hz hpos happ happn (grownCap_ge w (n + m) c' e') ha
              exact ⟨ρ', v', _, by rw [h3]; exact grow c' (by omega), h1, h2, h4⟩
            | true =>
              rw [cond_true] at ha
              cases hq : Nat.beq o 0 with
              | false => rw [hq] at ha; cases ha
              | true =>
                rw [hq, cond_true] at ha
                have ho0 : o = 0 := Tr.beq_iff.1 hq
                subst ho0
                have hk := h.kill hi
                by_cases hin : n + m ≤ c'
                · -- in place
                  cases hor with
                  | loose h1 h2 h3 h4 h5 h6 h7 =>
                    obtain ⟨ti2, hti2, hes⟩ := h7
                    rw [hti] at hti2; injection hti2 with hti2; subst hti2
                    have hcap : 0 + c' * i.esz = i.csz := by
                      rcases hc with ⟨h8, _⟩ | ⟨_, _, h8, _⟩
                      · rw [h8] at h2; cases h2
                      · exact h8
                    rw [← hes, Nat.zero_add] at hcap
                    have hmul : (n + m) * ti.size ≤ c' * ti.size := Nat.mul_le_mul_right _ hin
                    have hadd : n * ti.size + l'.length = (n + m) * ti.size := by rw [hlen', ← Nat.add_mul]
                    have hr := run_append_room (P := P) w t ty e' ti ht hti i.g n c' c1 hg a m xc l' hlen' hnews hone' hin (by omega)
                    have htk : c1.toList.take (n * ti.size) = olds' := by
                      apply List.ext_getElem?
                      intro j
                      rw [List.getElem?_take, Array.getElem?_toList]
                      split
                      · rename_i hj
                        have hjl : j < olds'.length := by omega
                        have := ho2 j _ (List.getElem?_eq_getElem hjl)
                        rw [Nat.zero_add] at this
                        simp only [World.cell?, hg] at this
                        rw [List.getElem?_eq_getElem hjl]
                        simpa using this
                      · rw [List.getElem?_eq_none (by omega)]
                    rw [htk] at hr
                    unfold growA at ha
                    cases hroom : (A.put b none).room with
                    | false => rw [hroom] at ha; cases ha
                    | true =>
                      rw [hroom, cond_true] at ha
                      injection ha with ha; injection ha with e1 e2; subst e1 e2
                      have hsz : ((olds' ++ l').toArray ++ (c1.toList.drop (n * ti.size + l'.length)).toArray).size = c' * ti.size := by
                        simp only [Array.size_append, List.size_toArray, List.length_append, List.length_drop, Array.length_toList]
                        omega
                      have hgr := hk.grown (g := i.g) (w' := w.setRow i.g (olds' ++ l' ++ c1.toList.drop (n * ti.size + l'.length)).toArray) hroom hti happ (rest := c1.toList.drop (n * ti.size + l'.length)) c' hsz rfl rfl rfl (by simp) hB'
                        (by rw [setRow_heap w i.g c1 _ e' _ hg]; simp) (fun k hk' _ => setRow_other w i.g k _ hk')
                        (fun d y j hd hj he => by
                          rw [put_get h.room (h.dom b i hi)] at hd
                          split at hd
                          · cases hd
                          · rename_i hdb
                            exact hdb (h.apart d b y _ j i hd hb hj hi he))
                        (fun r hr => Ne.symm ((h.marks.2 r hr).2.2 b _ i hb hi))
                      exact ⟨_, _, _, hr, Ren.le_more h.fresh, hgr, .slice (i := ⟨i.g, true, false, ti.size, c' * ti.size⟩) (Ren.more_self _ _ _) (.inr ⟨rfl, hin, by simp, hpos, .inl rfl⟩)⟩
                · obtain ⟨ρ', v', h1, h2, h3, h4⟩ := hk.growEnd hti hz hpos happ happn (grownCap_ge w (n + m) c' e') ha
                  exact ⟨ρ', v', _, by rw [h3]; exact grow c' (by omega), h1, h2, h4⟩
end
end Go.Proofs.YthnmadbfebjpkaaGreatDoor.Sim
