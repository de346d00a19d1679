/- A fast evaluator, part P: two stores in either order. Of no program. -/
import Derived.Test.YtnneooidkbhbeaaGreatDoorEvM
set_option linter.unusedVariables false
set_option linter.unusedSimpArgs false
namespace Go.Proofs.YtnneooidkbhbeaaGreatDoor.Fast
open Go Go.RowKit Go.Proofs.YtnneooidkbhbeaaGreatDoor.Sim
noncomputable section
/-- so many cells are other ones -/
structure Upd (A A' : AW) (b o : Nat) (l : List Value) : Prop where
  next : A'.next = A.next
  other : ∀ d, d ≠ b → A'.heap.get d = A.heap.get d
  blk : ∃ (c c' : Array Value) (e : TypeId) (f : Nat × Nat) (fam : Bool), A.heap.get b = some ⟨.cells c e f, fam, false⟩ ∧ A'.heap.get b = some ⟨.cells c' e f, fam, false⟩ ∧ c'.size = c.size ∧ ∀ p : Nat, c'[p]? = if o ≤ p ∧ p < o + l.length then l[p - o]? else c[p]?
theorem Upd.swap {A A1 A2 A12 A21 : AW} {b o b2 o2 : Nat} {l l2 : List Value} (h1 : Upd A A1 b o l) (h2 : Upd A1 A12 b2 o2 l2) (h3 : Upd A A2 b2 o2 l2) (h4 : Upd A2 A21 b o l) (ap : b ≠ b2 ∨ o + l.length ≤ o2 ∨ o2 + l2.length ≤ o) : A21.next = A12.next ∧ ∀ d, A21.heap.get d = A12.heap.get d := by
  refine ⟨by rw [h4.next, h3.next, h2.next, h1.next], fun d => ?_⟩
  by_cases hbb : b = b2
  · subst hbb
    by_cases hd : d = b
    · subst hd
      obtain ⟨c, c1, e, f, fam, q1, q2, q3, q4⟩ := h1.blk
      obtain ⟨c', c12, e', f', fam', r1, r2, r3, r4⟩ := h2.blk
      obtain ⟨c'', c2, e'', f'', fam'', s1, s2, s3, s4⟩ := h3.blk
      obtain ⟨c3, c21, e3, f3, fam3, u1, u2, u3, u4⟩ := h4.blk
      rw [q2] at r1
      injection r1 with r1
      injection r1 with r1 r5
      injection r1 with r1 r6 r7
      subst r1 r5 r6 r7
      rw [q1] at s1
      injection s1 with s1
      injection s1 with s1 s5
      injection s1 with s1 s6 s7
      subst s1 s5 s6 s7
      rw [s2] at u1
      injection u1 with u1
      injection u1 with u1 u5
      injection u1 with u1 u6 u7
      subst u1 u5 u6 u7
      rw [u2, r2]
      have hc : c21 = c12 := by
        apply Array.ext_getElem?
        intro p
        rw [u4 p, r4 p, s4 p, q4 p]
        by_cases p1 : o ≤ p ∧ p < o + l.length
        · rw [if_pos p1, if_pos p1]
          by_cases p2 : o2 ≤ p ∧ p < o2 + l2.length
          · exfalso
            rcases ap with ap | ap | ap
            · exact ap rfl
            · omega
            · omega
          · rw [if_neg p2]
        · rw [if_neg p1, if_neg p1]
      rw [hc]
    · rw [h4.other d hd, h3.other d hd, h2.other d hd, h1.other d hd]
  · by_cases hd : d = b
    · subst hd
      rw [h2.other d hbb]
      obtain ⟨c, c1, e, f, fam, q1, q2, q3, q4⟩ := h1.blk
      obtain ⟨c3, c21, e3, f3, fam3, u1, u2, u3, u4⟩ := h4.blk
      rw [h3.other d hbb, q1] at u1
      injection u1 with u1
      injection u1 with u1 u5
      injection u1 with u1 u6 u7
      subst u1 u5 u6 u7
      rw [u2, q2]
      have hc : c21 = c1 := by
        apply Array.ext_getElem?
        intro p
        rw [u4 p, q4 p]
      rw [hc]
    · by_cases hd2 : d = b2
      · subst hd2
        rw [h4.other d hd]
        obtain ⟨c', c12, e', f', fam', r1, r2, r3, r4⟩ := h2.blk
        obtain ⟨c'', c2, e'', f'', fam'', s1, s2, s3, s4⟩ := h3.blk
        rw [h1.other d hd, s1] at r1
        injection r1 with r1
        injection r1 with r1 r5
        injection r1 with r1 r6 r7
        subst r1 r5 r6 r7
        rw [s2, r2]
        have hc : c2 = c12 := by
          apply Array.ext_getElem?
          intro p
          rw [s4 p, r4 p]
        rw [hc]
      · rw [h4.other d hd, h3.other d hd2, h2.other d hd2, h1.other d hd]
theorem MR.ext {F : FM} {A A' : AW} (h : MR F A) (hn : A'.next = A.next) (hg : ∀ d, A'.heap.get d = A.heap.get d) : MR F A' :=
  ⟨hn.trans h.next, fun b hb => by rw [hg b]; exact h.blk b hb⟩
section
variable {P : Program} {B : Nat} {w0 : Base} {n : Nat} {ops : Array Oper}
theorem storeCells_inv {b o : Nat} (hb : b < 32768) : ∀ (l : List Value) (i : Nat) (A A' : AW), l ≠ [] → runA P (storeCells ⟨b, o, none⟩ l i) A = some ((), A') → Upd A A' b (o + i) l
  | [], _, _, _, h, _ => absurd rfl h
  | v :: l, i, A, A', _, h => by
    have h' : runA P (Sem.bind (store ((⟨b, o, none⟩ : Addr).add i) v) fun _ => storeCells ⟨b, o, none⟩ l (i + 1)) A = some ((), A') := h
    rw [add_none, runA_bind] at h'
    cases hs : runA P (store ⟨b, o + i, none⟩ v) A with
    | none => rw [hs] at h'; cases h'
    | some x =>
      rw [hs] at h'
      obtain ⟨u, A1⟩ := x
      obtain ⟨_, _, h3⟩ := runA_store P .plain ⟨b, o + i, none⟩ v A hs
      have h' : runA P (storeCells ⟨b, o, none⟩ l (i + 1)) A1 = some ((), A') := h'
      unfold AW.store at h3
      cases hg : A.heap.get b with
      | none => rw [hg] at h3; cases h3
      | some x =>
        rw [hg] at h3
        split at h3
        · rename_i c e f fam hx
          injection hx with hx; subst hx
          simp only [Option.isSome_none, Bool.false_or] at h3
          cases hlt : Nat.blt (o + i) c.size with
          | false => rw [hlt] at h3; cases h3
          | true =>
            rw [hlt] at h3
            simp only [Bool.not_true, cond_false] at h3
            injection h3 with h3
            have h3 : A.put b (some ⟨.cells (c.setIfInBounds (o + i) v) e f, fam, false⟩) = A1 := h3
            subst h3
            have hlt' := blt_lt hlt
            have first : Upd A (A.put b (some ⟨.cells (c.setIfInBounds (o + i) v) e f, fam, false⟩)) b (o + i) [v] := by
              refine ⟨rfl, fun d hd => by rw [AW.put_at hb, if_neg hd], c, _, e, f, fam, hg, by rw [AW.put_at hb, if_pos rfl], by rw [Array.size_setIfInBounds], fun p => ?_⟩
              rw [Array.getElem?_setIfInBounds]
              by_cases hp : o + i = p
              · subst hp
                rw [if_pos rfl, if_pos hlt', if_pos (by simp), Nat.sub_self]
                rfl
              · rw [if_neg hp, if_neg (by simp only [List.length_cons, List.length_nil]; omega)]
            by_cases hl : l = []
            · subst hl
              have : A.put b (some ⟨.cells (c.setIfInBounds (o + i) v) e f, fam, false⟩) = A' := by
                have h2 : some ((), A.put b (some ⟨.cells (c.setIfInBounds (o + i) v) e f, fam, false⟩)) = some ((), A') := h'
                injection h2 with h2
                injection h2 with _ h2
              rw [← this]
              exact first
            · have rest := storeCells_inv hb l (i + 1) _ _ hl h'
              obtain ⟨c0, c1, e1, f1, fam1, q1, q2, q3, q4⟩ := first.blk
              obtain ⟨c2, c3, e2, f2, fam2, r1, r2, r3, r4⟩ := rest.blk
              rw [q2] at r1
              injection r1 with r1
              injection r1 with r1 r5
              injection r1 with r1 r6 r7
              subst r1 r5 r6 r7
              refine ⟨rest.next.trans first.next, fun d hd => (rest.other d hd).trans (first.other d hd), c0, c3, _, _, _, q1, r2, r3.trans q3, fun p => ?_⟩
              rw [r4 p, q4 p]
              simp only [List.length_cons, List.length_nil]
              by_cases p1 : p = o + i
              · subst p1
                rw [if_neg (by omega), if_pos (by omega), if_pos (by omega), Nat.sub_self]
                rfl
              · by_cases p2 : o + (i + 1) ≤ p ∧ p < o + (i + 1) + l.length
                · rw [if_pos p2, if_pos (by omega), show p - (o + i) = p - (o + (i + 1)) + 1 by omega, List.getElem?_cons_succ]
                · rw [if_neg p2, if_neg (by omega), if_neg (by omega)]
        · cases h3
theorem store_inv {dst : Option Tmp} {ty : TypeId} {pos : String} {after : Array Edge} {guard : Option (Nat × Bool)} {s : TypeId} {x y : Operand} {t : Operand → Value} {A : AW} {b o : Nat} {m : AN × AW} (hb : b < 32768) (hx : t x = .pointer (some ⟨b, o, none⟩)) (hpos : 0 < sizeB P s) (h : opA P t ⟨dst, .store s x y, ty, pos, after, guard⟩ A = some m) :
    m.1 = .skip ∧ (t y).cells.toList.length = sizeB P s ∧ Upd A m.2 b o (t y).cells.toList := by
  unfold opA at h
  cases hk : okOp ⟨dst, .store s x y, ty, pos, after, guard⟩ with
  | false => rw [hk] at h; cases h
  | true =>
    rw [hk, cond_true] at h
    dsimp only at h
    cases hi : P.info? s with
    | none => unfold sizeB at hpos; rw [hi] at hpos; exact absurd hpos (Nat.lt_irrefl 0)
    | some i =>
      have hsz := sizeB_info hi
      by_cases hv : (t y).cells.size = i.size
      · rw [hx, run_storeAt hi hv A] at h
        cases hr : runA P (storeCells ⟨b, o, none⟩ (t y).cells.toList) A with
        | none => rw [hr] at h; cases h
        | some u =>
          obtain ⟨⟨⟩, A'⟩ := u
          rw [hr] at h
          injection h with h; subst h
          refine ⟨rfl, by rw [Array.length_toList, hv, hsz], ?_⟩
          have := storeCells_inv hb (t y).cells.toList 0 A A' (fun e => by
            have : (t y).cells.toList.length = 0 := by rw [e]; rfl
            rw [Array.length_toList] at this
            omega) hr
          exact this
      · exfalso
        rw [hx] at h
        have : runA P (Instr.storeAt s (.pointer (some ⟨b, o, none⟩)) (t y)) A = none := by
          unfold Instr.storeAt storeVar
          simp only [Instr.sureAddr, Bind.bind, Pure.pure, Sem.bind, runA, sizeOf, typeInfo, program, hi]
          rw [if_pos hv]
          rfl
        rw [this] at h
        cases h
theorem stepW_store {o : Oper} {s : TypeId} {x y : Operand} (ho : o.op = .store s x y) {t : Array Value} {A : AW} {K : Value → AW → Prop} {b of : Nat} (hb : b < 32768) (hx : ev t x = .pointer (some ⟨b, of, none⟩)) (hpos : 0 < sizeB P s) (h : stepW P B w0 t o A K) : ∃ A', opA P (ev t) o A = some (.skip, A') ∧ K undef A' ∧ (ev t y).cells.toList.length = sizeB P s ∧ Upd A A' b of (ev t y).cells.toList := by
  obtain ⟨dst, op, ty, pos, after, guard⟩ := o
  dsimp only at ho
  subst ho
  have h2 := h.2
  cases hq : opA P (ev t) ⟨dst, .store s x y, ty, pos, after, guard⟩ A with
  | none =>
    rw [hq] at h2
    obtain ⟨_, x, k2, _⟩ := h2
    cases k2
  | some m =>
    obtain ⟨q1, q2, q3⟩ := store_inv hb hx hpos hq
    obtain ⟨m1, m2⟩ := m
    dsimp only at q1
    subst q1
    rw [hq] at h2
    exact ⟨m2, rfl, h2, q2, q3⟩
theorem wanted_none {o : Oper} (h : o.guard.isNone = true) (y : Nat → Option Bool) : Region.wanted o y = true := by
  unfold Region.wanted
  cases hg : o.guard with
  | none => rfl
  | some g => rw [hg] at h; cases h
theorem putA_none {o : Oper} (h : o.dst.isNone = true) (t : Array Value) (v : Value) : putA t o.dst v = t := by
  cases hd : o.dst with
  | none => rfl
  | some d => rw [hd] at h; cases h
end
end
end Go.Proofs.YtnneooidkbhbeaaGreatDoor.Fast
