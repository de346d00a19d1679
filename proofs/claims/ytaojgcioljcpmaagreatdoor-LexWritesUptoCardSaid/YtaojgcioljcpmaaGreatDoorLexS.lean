/- Plain law: a text's tail that begins at a code point has the code points that stand there; what LexTail says, without a program. -/
import Derived.Test.YtaojgcioljcpmaaGreatDoorLexR
import Derived.Test.YtaojgcioljcpmaaGreatDoorLexL
namespace Go.Proofs.YtaojgcioljcpmaaGreatDoor
open Go

theorem scan_rel (s : List UInt8) (o : Nat) (q : U.Pos) : ∀ (f j : Nat) (p p' : U.Pos), Rel q p p' →
    Rels (Rel q) (U.scan s f (o + j) p).1 (U.scan (s.drop o) f j p').1 ∧ (U.scan s f (o + j) p).2.2 = (U.scan (s.drop o) f j p').2.2
  | 0, _, _, _, _ => by simp [U.scan, Rels]
  | f + 1, j, p, p', h => by
    have hd : (s.drop o).drop j = s.drop (o + j) := by rw [List.drop_drop]
    by_cases hlt : o + j < s.length
    · have hlt' : j < (s.drop o).length := by rw [List.length_drop]; omega
      cases hb : U.bad (s.drop (o + j)) with
      | true =>
        rw [U.scan_bad s f _ p hlt hb, U.scan_bad (s.drop o) f j p' hlt' (by rw [hd]; exact hb)]
        simp [Rels]
      | false =>
        rw [U.scan_good s f _ p hlt hb, U.scan_good (s.drop o) f j p' hlt' (by rw [hd]; exact hb), hd]
        obtain ⟨i1, i2⟩ := scan_rel s o q f (j + (U.dec (s.drop (o + j))).2) _ _ (h.next (U.dec (s.drop (o + j))).1 (U.dec (s.drop (o + j))).2)
        rw [← Nat.add_assoc] at i1 i2
        exact ⟨⟨rfl, h, i1⟩, i2⟩
    · rw [U.scan_end s _ _ p hlt, U.scan_end (s.drop o) _ j p' (by rw [List.length_drop]; omega)]
      simp [Rels]
theorem scan_fuel (s : List UInt8) : ∀ (f g i : Nat) (p : U.Pos), s.length - i ≤ f → s.length - i ≤ g → U.scan s f i p = U.scan s g i p
  | f, g, i, p, h1, h2 => by
    by_cases hlt : i < s.length
    · match f, g, h1, h2 with
      | 0, _, h1, _ => omega
      | _, 0, _, h2 => omega
      | f + 1, g + 1, h1, h2 =>
        cases hb : U.bad (s.drop i) with
        | true => rw [U.scan_bad s f i p hlt hb, U.scan_bad s g i p hlt hb]
        | false =>
          have hw := (U.dec_le (s.drop i)).2.2
          rw [U.scan_good s f i p hlt hb, U.scan_good s g i p hlt hb, scan_fuel s f g _ _ (by omega) (by omega)]
    · rw [U.scan_end s f i p hlt, U.scan_end s g i p hlt]
theorem next_a (p : U.Pos) (r z : Int) : (U.next p r z).a = p.a + z := by unfold U.next; split <;> rfl
/-- a code point among those that are gone over -/
theorem scan_at (s : List UInt8) : ∀ (k f i : Nat) (p : U.Pos), p.a = i → s.length - i ≤ f → ∀ (hk : k < (U.scan s f i p).1.length),
    ∃ o g, o < s.length ∧ i + k ≤ o ∧ s.length - o ≤ g ∧ ((U.scan s f i p).1[k]'hk).p.a = o ∧ (U.scan s f i p).1.drop k = (U.scan s g o ((U.scan s f i p).1[k]'hk).p).1 ∧ (U.scan s f i p).2.2 = (U.scan s g o ((U.scan s f i p).1[k]'hk).p).2.2
  | k, 0, i, p, _, _, hk => by simp [U.scan] at hk
  | k, f + 1, i, p, hp, hf, hk => by
    by_cases hlt : i < s.length
    · cases hb : U.bad (s.drop i) with
      | true => rw [U.scan_bad s f i p hlt hb] at hk; simp at hk
      | false =>
        have hw := (U.dec_le (s.drop i)).2.2
        have he := U.scan_good s f i p hlt hb
        cases k with
        | zero =>
          refine ⟨i, f + 1, hlt, by omega, hf, ?_, ?_, ?_⟩
          · simp only [he]; simpa using hp
          · have e0 : ((U.scan s (f + 1) i p).1[0]'hk).p = p := by simp only [he]; rfl
            rw [e0]; rfl
          · have e0 : ((U.scan s (f + 1) i p).1[0]'hk).p = p := by simp only [he]; rfl
            rw [e0]
        | succ k =>
          have hk' := hk
          rw [he] at hk'
          obtain ⟨o, g, h1, h2, h3, h4, h5, h6⟩ := scan_at s k f (i + (U.dec (s.drop i)).2) (U.next p (U.dec (s.drop i)).1 (U.dec (s.drop i)).2) (by rw [next_a, hp]; simp) (by omega) (by simpa using hk')
          have e0 : ((U.scan s (f + 1) i p).1[k + 1]'hk) = (U.scan s f (i + (U.dec (s.drop i)).2) (U.next p (U.dec (s.drop i)).1 (U.dec (s.drop i)).2)).1[k]'(by simpa using hk') := by
            simp only [he]; rfl
          refine ⟨o, g, h1, by omega, h3, ?_, ?_, ?_⟩
          · rw [e0]; exact h4
          · rw [e0, ← h5, he]; rfl
          · rw [e0, ← h6, he]
    · rw [U.scan_end s _ _ p hlt] at hk; simp at hk
theorem next_b (p : U.Pos) (r : Int) (z : Nat) (hp : 1 ≤ p.l ∧ 0 ≤ p.c) : (U.next p r z).a = p.a + z ∧ 1 ≤ (U.next p r z).l ∧ (U.next p r z).l ≤ p.l + 1 ∧ 0 ≤ (U.next p r z).c ∧ (U.next p r z).c ≤ p.c + 1 := by
  unfold U.next
  by_cases hr : r = 10
  · rw [if_pos hr]; refine ⟨rfl, ?_, ?_, ?_, ?_⟩ <;> simp only <;> omega
  · rw [if_neg hr]; refine ⟨rfl, ?_, ?_, ?_, ?_⟩ <;> simp only <;> omega
/-- the places are small -/
theorem scan_small (s : List UInt8) : ∀ (f i : Nat) (p : U.Pos), 0 ≤ p.a ∧ 1 ≤ p.l ∧ 0 ≤ p.c → ∀ x ∈ (U.scan s f i p).1, 0 ≤ x.p.a ∧ x.p.a ≤ p.a + 4 * f ∧ 1 ≤ x.p.l ∧ x.p.l ≤ p.l + f ∧ 0 ≤ x.p.c ∧ x.p.c ≤ p.c + f + 1
  | 0, _, _, _, x, hx => by simp [U.scan] at hx
  | f + 1, i, p, hp, x, hx => by
    by_cases hlt : i < s.length
    · cases hb : U.bad (s.drop i) with
      | true => rw [U.scan_bad s f i p hlt hb] at hx; simp at hx
      | false =>
        rw [U.scan_good s f i p hlt hb] at hx
        rcases List.mem_cons.1 hx with rfl | hx
        · simp only; omega
        · have hw := (U.dec_le (s.drop i)).2
          have hn := next_b p (U.dec (s.drop i)).1 (U.dec (s.drop i)).2 (by omega)
          have := scan_small s f _ _ (by omega) x hx
          omega
    · rw [U.scan_end s _ _ p hlt] at hx; simp at hx
theorem eE_zero (s : List UInt8) (h : U.eE s = 0) : s.length ≤ 4000 ∧ (U.all s).2.2 = true ∧ U.pts s = (U.all s).1 := by
  unfold U.eE at h
  by_cases h1 : 4000 < s.length
  · rw [if_pos h1] at h; cases h
  · rw [if_neg h1] at h
    by_cases h2 : (U.all s).2.2 = true
    · refine ⟨by omega, h2, ?_⟩
      unfold U.pts
      rw [if_neg h1, if_pos h2]
    · rw [if_neg h2] at h; cases h
theorem eE_of (s : List UInt8) (h : s.length ≤ 4000) (h2 : (U.all s).2.2 = true) : U.eE s = 0 ∧ U.pts s = (U.all s).1 := by
  unfold U.eE U.pts
  rw [if_neg (by omega), if_pos h2, if_neg (by omega), if_pos h2]
  exact ⟨rfl, rfl⟩
theorem tokens_zero (s : List UInt8) (h : (T.tokens s).2.1 = 0) : U.eE s = 0 ∧ T.tokens s = T.toks ((U.pts s).length + 1) (U.pts s) ∧ (T.tokens s).2.2 = U.zero := by
  unfold T.tokens at h ⊢
  by_cases h0 : U.eE s = 0
  · rw [if_pos h0] at h ⊢
    exact ⟨h0, rfl, toks_zero _ _ h⟩
  · rw [if_neg h0] at h; exact absurd h h0

/-- places within a text -/
def Fits (p : U.Pos) : Prop := 0 ≤ p.a ∧ p.a ≤ 16000 ∧ 1 ≤ p.l ∧ p.l ≤ 4001 ∧ 0 ≤ p.c ∧ p.c ≤ 4002
theorem pts_fits (s : List UInt8) : ∀ x ∈ U.pts s, Fits x.p := by
  intro x hx
  rcases U.pts s with _ | _ <;> unfold U.pts at hx
  all_goals
    by_cases h1 : 4000 < s.length
    · rw [if_pos h1] at hx; simp at hx
    · rw [if_neg h1] at hx
      by_cases h2 : (U.all s).2.2 = true
      · rw [if_pos h2] at hx
        have := scan_small s s.length 0 U.start (by unfold U.start; simp) x hx
        unfold Fits
        unfold U.start at this
        simp only at this
        omega
      · rw [if_neg h2] at hx; simp at hx

/-- LexTail, without a program -/
theorem tail_law (s : List UInt8) (ts : List T.Tok) (z : U.Pos) (h : T.tokens s = (ts, 0, z)) (n : Nat) (hn : n < ts.length) :
    ∃ o : Nat, (ts[n]'hn).p.a = o ∧ o < s.length ∧ (∀ (h0 : 0 < n), (ts[n - 1]'(by omega)).p.a < o) ∧
      ∃ ms, T.tokens (s.drop o) = (ms, 0, U.zero) ∧ TRels (Rel (ts[n]'hn).p) (ts.drop n) ms := by
  obtain ⟨hE, hT, hz⟩ := tokens_zero s (by rw [h])
  obtain ⟨hs, hok, hp⟩ := eE_zero s hE
  rw [h] at hz
  simp only at hz
  subst hz
  rw [h] at hT
  obtain ⟨L, hL⟩ : ∃ L, U.pts s = L := ⟨_, rfl⟩
  rw [hL] at hT hp
  have hLl : L.length ≤ s.length := by rw [hp]; exact scan_len' s _ _ _
  obtain ⟨i, hi, hni, hpi, hri⟩ := toks_nth n _ L ts hT.symm hn
  subst hp
  obtain ⟨o, g, h1, h2, h3, h4, h5, h6⟩ := scan_at s i s.length 0 U.start rfl (by omega) hi
  have hq : (ts[n]'hn).p = ((U.all s).1[i]'hi).p := hpi.symm
  refine ⟨o, by rw [hq]; exact h4, h1, fun h0 => ?_, ?_⟩
  · obtain ⟨a, b, ha, hb, hab, hpa, hpb⟩ := toks_next (n - 1) _ _ ts hT.symm (by omega)
    obtain ⟨o1, g1, a1, a2, a3, a4, a5, a6⟩ := scan_at s a s.length 0 U.start rfl (by omega) ha
    have hn1 : n - 1 + 1 = n := by omega
    simp only [hn1] at hpb
    have hb' : b - a < ((U.scan s g1 o1 ((U.all s).1[a]'ha).p).1).length := by
      have e := congrArg List.length a5
      rw [List.length_drop] at e
      have hbl : b < (U.scan s s.length 0 U.start).1.length := hb
      have : (U.scan s g1 o1 ((U.scan s s.length 0 U.start).1[a]'ha).p).1.length = (U.scan s s.length 0 U.start).1.length - a := e.symm
      show b - a < (U.scan s g1 o1 ((U.scan s s.length 0 U.start).1[a]'ha).p).1.length
      omega
    obtain ⟨o2, g2, b1, b2, b3, b4, _, _⟩ := scan_at s (b - a) g1 o1 ((U.all s).1[a]'ha).p a4 a3 hb'
    have e : ((U.scan s g1 o1 ((U.all s).1[a]'ha).p).1[b - a]'hb') = (U.all s).1[b]'hb := by
      have e1 : (U.scan s g1 o1 ((U.all s).1[a]'ha).p).1 = (U.all s).1.drop a := a5.symm
      simp only [e1, List.getElem_drop]
      congr 1
      omega
    have h4' : ((U.all s).1[i]'hi).p.a = o := h4
    rw [e, hpb, hq, h4'] at b4
    rw [← hpa]
    have a4' : ((U.all s).1[a]'ha).p.a = o1 := a4
    rw [a4']
    omega
  · have hrel := scan_rel s o (ts[n]'hn).p (s.length - o) 0 (ts[n]'hn).p U.start (Rel.start _)
    have hfull : U.scan s g o (ts[n]'hn).p = U.scan s (s.length - o) o (ts[n]'hn).p := scan_fuel s _ _ _ _ h3 (Nat.le_refl _)
    rw [Nat.add_zero, ← hfull] at hrel
    have hdl : (s.drop o).length = s.length - o := List.length_drop
    have hall : U.scan (s.drop o) (s.length - o) 0 U.start = U.all (s.drop o) := by unfold U.all; rw [hdl]
    rw [hall] at hrel
    have h5' : (U.all s).1.drop i = (U.scan s g o (ts[n]'hn).p).1 := by rw [hq]; exact h5
    have h6' : (U.all s).2.2 = (U.scan s g o (ts[n]'hn).p).2.2 := by rw [hq]; exact h6
    rw [← h5', ← h6', hok] at hrel
    obtain ⟨hE2, hP2⟩ := eE_of (s.drop o) (by omega) hrel.2.symm
    have hR : Rels (Rel (ts[n]'hn).p) ((U.all s).1.drop i) (U.pts (s.drop o)) := by rw [hP2]; exact hrel.1
    obtain ⟨r1, r2⟩ := toks_rel ((U.pts (s.drop o)).length + 1) _ _ hR
    have hlen := hR.len
    have hfu : T.toks ((U.pts (s.drop o)).length + 1) ((U.all s).1.drop i) = T.toks ((U.all s).1.length + 1 - n) ((U.all s).1.drop i) := by
      refine toks_fuel _ _ _ (by omega) ?_
      rw [List.length_drop]; omega
    rw [hfu, hri] at r1 r2
    simp only at r1 r2
    have hz2 := toks_zero _ _ r1.symm
    refine ⟨(T.toks ((U.pts (s.drop o)).length + 1) (U.pts (s.drop o))).1, ?_, r2⟩
    unfold T.tokens
    rw [if_pos hE2]
    exact Prod.ext rfl (Prod.ext r1.symm hz2)
theorem TRels.same {R : U.Pos → U.Pos → Prop} : ∀ {l m : List T.Tok}, TRels R l m → sameT false m l = true
  | [], [], _ => rfl
  | x :: l, y :: m, h => by
    have := TRels.same h.2
    simp [sameT, this, h.1.1, h.1.2.1, h.1.2.2.1]
  | [], _ :: _, h => h.elim
  | _ :: _, [], h => h.elim
end Go.Proofs.YtaojgcioljcpmaaGreatDoor
