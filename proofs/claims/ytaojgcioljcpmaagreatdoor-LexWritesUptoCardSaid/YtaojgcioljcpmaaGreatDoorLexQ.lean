/- Plain facts: what tokens are told of code points that are gone over once. No program is in sight. -/
import Derived.Test.YtaojgcioljcpmaaGreatDoorLexP
namespace Go.Proofs.YtaojgcioljcpmaaGreatDoor
open Go

theorem quote_n (P : U.Pos) (l : List U.Pt) (acc : List UInt8) (n : Nat) (t : T.Tok) (k : Nat) (h : T.quote P l acc n = .ok t k) : n < k := by
  fun_induction T.quote P l acc n with
  | case1 => cases h
  | case2 => cases h
  | case3 => injection h with h1 h2; omega
  | case4 => cases h
  | case5 => cases h
  | case6 => rename_i ih; have := ih h; omega
  | case7 => rename_i ih; have := ih h; omega
theorem quote_e (P : U.Pos) (l : List U.Pt) (acc : List UInt8) (n : Nat) (E : Int) (q : U.Pos) (h : T.quote P l acc n = .bad E q) : E ≠ 0 := by
  fun_induction T.quote P l acc n with
  | case1 => injection h with h1 h2; omega
  | case2 => injection h with h1 h2; omega
  | case3 => cases h
  | case4 => injection h with h1 h2; omega
  | case5 => injection h with h1 h2; omega
  | case6 => rename_i ih; exact ih h
  | case7 => rename_i ih; exact ih h

theorem word_n (x : U.Pt) (t : List U.Pt) (k : T.Tok) (n : Nat) (hx : T.kindR x.r = 3 ∨ T.kindR x.r = 4) (h : T.word (x :: t) = .ok k n) : 1 ≤ n := by
  unfold T.word at h
  obtain ⟨N, hN⟩ : ∃ N, T.count [2, 3, 4, 5] (x :: t) = N := ⟨_, rfl⟩
  have hN1 : 1 ≤ N := by
    rw [← hN]
    unfold T.count
    have : T.isIn [2, 3, 4, 5] x = true := by unfold T.isIn; rcases hx with h | h <;> rw [h] <;> decide
    rw [if_pos this]; omega
  obtain ⟨X, hX⟩ : ∃ X, T.textOf ((x :: t).take N) = X := ⟨_, rfl⟩
  simp only [hN, hX] at h
  by_cases h1 : T.words.contains X = true
  · rw [if_pos h1] at h; injection h with h1 h2; omega
  · rw [if_neg h1] at h
    by_cases h2 : T.prims.contains X = true
    · rw [if_pos h2] at h; injection h with h1 h2; omega
    · rw [if_neg h2] at h
      by_cases h3 : 24 < X.length
      · rw [if_pos h3] at h; cases h
      · rw [if_neg h3] at h; injection h with h1 h2; omega
theorem word_e (l : List U.Pt) (E : Int) (q : U.Pos) (h : T.word l = .bad E q) : E ≠ 0 := by
  unfold T.word at h
  obtain ⟨X, hX⟩ : ∃ X, T.textOf (l.take (T.count [2, 3, 4, 5] l)) = X := ⟨_, rfl⟩
  obtain ⟨N, hN⟩ : ∃ N, T.count [2, 3, 4, 5] l = N := ⟨_, rfl⟩
  rw [hN] at hX
  simp only [hN, hX] at h
  by_cases h1 : T.words.contains X = true
  · rw [if_pos h1] at h; cases h
  · rw [if_neg h1] at h
    by_cases h2 : T.prims.contains X = true
    · rw [if_pos h2] at h; cases h
    · rw [if_neg h2] at h
      by_cases h3 : 24 < X.length
      · rw [if_pos h3] at h; injection h with h1 h2; omega
      · rw [if_neg h3] at h; cases h
theorem number_n (x : U.Pt) (t : List U.Pt) (k : T.Tok) (n : Nat) (hx : T.kindR x.r = 2) (h : T.number (x :: t) = .ok k n) : 1 ≤ n := by
  unfold T.number at h
  obtain ⟨N, hN⟩ : ∃ N, T.count [2] (x :: t) = N := ⟨_, rfl⟩
  have hN1 : 1 ≤ N := by
    rw [← hN]
    unfold T.count
    have : T.isIn [2] x = true := by unfold T.isIn; rw [hx]; decide
    rw [if_pos this]; omega
  obtain ⟨V, hV⟩ : ∃ V, T.numOf ((x :: t).take N) = V := ⟨_, rfl⟩
  by_cases h1 : T.peek (x :: t) 0 = 48 ∧ T.kindR (T.peek (x :: t) 1) = 2
  · rw [if_pos h1] at h; cases h
  · rw [if_neg h1] at h
    simp only [hN, hV] at h
    by_cases h2 : 1099511627776 < V
    · rw [if_pos h2] at h; cases h
    · rw [if_neg h2] at h; injection h with h1 h2; omega
theorem number_e (l : List U.Pt) (E : Int) (q : U.Pos) (h : T.number l = .bad E q) : E ≠ 0 := by
  unfold T.number at h
  by_cases h1 : T.peek l 0 = 48 ∧ T.kindR (T.peek l 1) = 2
  · rw [if_pos h1] at h; injection h with h1 h2; omega
  · rw [if_neg h1] at h
    obtain ⟨V, hV⟩ : ∃ V, T.numOf (l.take (T.count [2] l)) = V := ⟨_, rfl⟩
    simp only [hV] at h
    by_cases h2 : 1099511627776 < V
    · rw [if_pos h2] at h; injection h with h1 h2; omega
    · rw [if_neg h2] at h; cases h
theorem sign_eq (l : List U.Pt) : ∃ q, T.sign l = if q = [] then T.Res.bad 100 (T.headP l) else T.Res.ok ⟨5, q, 0, T.headP l⟩ q.length := by
  have e : ∀ q, T.bestOf l T.signs = q → T.sign l = if q = [] then T.Res.bad 100 (T.headP l) else T.Res.ok ⟨5, q, 0, T.headP l⟩ q.length := by
    intro q hq
    unfold T.sign
    rw [hq]
  exact ⟨_, e _ rfl⟩
theorem sign_n (l : List U.Pt) (k : T.Tok) (n : Nat) (h : T.sign l = .ok k n) : 1 ≤ n := by
  obtain ⟨q, hq⟩ := sign_eq l
  rw [hq] at h
  by_cases h1 : q = []
  · rw [if_pos h1] at h; cases h
  · rw [if_neg h1] at h; injection h with h2 h3
    have := List.length_pos_iff.2 h1
    omega
theorem sign_e (l : List U.Pt) (E : Int) (p : U.Pos) (h : T.sign l = .bad E p) : E ≠ 0 := by
  obtain ⟨q, hq⟩ := sign_eq l
  rw [hq] at h
  by_cases h1 : q = []
  · rw [if_pos h1] at h; injection h with h2 h3; omega
  · rw [if_neg h1] at h; cases h

theorem token_cases (l : List U.Pt) : (T.token l = T.word l ∧ (T.kindR (T.peek l 0) = 3 ∨ T.kindR (T.peek l 0) = 4)) ∨ (T.token l = T.number l ∧ T.kindR (T.peek l 0) = 2) ∨ T.token l = T.quoted l ∨ T.token l = T.sign l := by
  unfold T.token
  simp only
  by_cases h1 : T.kindR (T.peek l 0) = 3 ∨ T.kindR (T.peek l 0) = 4
  · rw [if_pos h1]; exact .inl ⟨rfl, h1⟩
  · rw [if_neg h1]
    by_cases h2 : T.kindR (T.peek l 0) = 2
    · rw [if_pos h2]; exact .inr (.inl ⟨rfl, h2⟩)
    · rw [if_neg h2]
      by_cases h3 : T.peek l 0 = 34
      · rw [if_pos h3]; exact .inr (.inr (.inl rfl))
      · rw [if_neg h3]; exact .inr (.inr (.inr rfl))
theorem token_n (x : U.Pt) (t : List U.Pt) (k : T.Tok) (n : Nat) (h : T.token (x :: t) = .ok k n) : 1 ≤ n := by
  rcases token_cases (x :: t) with ⟨e, hk⟩ | ⟨e, hk⟩ | e | e
  · rw [e] at h; exact word_n x t k n hk h
  · rw [e] at h; exact number_n x t k n hk h
  · rw [e] at h; unfold T.quoted at h; have := quote_n _ _ _ _ _ _ h; omega
  · rw [e] at h; exact sign_n _ k n h
theorem token_e (l : List U.Pt) (E : Int) (q : U.Pos) (h : T.token l = .bad E q) : E ≠ 0 := by
  rcases token_cases l with ⟨e, hk⟩ | ⟨e, hk⟩ | e | e
  · rw [e] at h; exact word_e _ _ _ h
  · rw [e] at h; exact number_e _ _ _ h
  · rw [e] at h; unfold T.quoted at h; exact quote_e _ _ _ _ _ _ h
  · rw [e] at h; exact sign_e _ _ _ h

/-- the tokens of code points that begin with one -/
def toksS (f : Nat) (l : List U.Pt) : List T.Tok × Int × U.Pos :=
  match l with
  | [] => ([], 0, U.zero)
  | x :: t =>
    match T.token (x :: t) with
    | .bad e p => ([], e, p)
    | .ok k n => let r := T.toks f ((x :: t).drop n); if r.2.1 = 0 then (k :: r.1, 0, U.zero) else ([], r.2)
theorem toks_succ (f : Nat) (l : List U.Pt) : T.toks (f + 1) l = toksS f (T.skip false l) := by
  unfold T.toks toksS
  rfl
/-- tokens, and those behind them -/
def joinT (acc : List T.Tok) (r : List T.Tok × Int × U.Pos) : List T.Tok × Int × U.Pos := if r.2.1 = 0 then (acc ++ r.1, 0, U.zero) else ([], r.2)
theorem joinT_nil (f : Nat) (l : List U.Pt) : joinT [] (toksS f l) = toksS f l := by
  unfold joinT
  split
  · next h =>
    cases l with
    | nil => rfl
    | cons x t =>
      unfold toksS at h ⊢
      simp only at h ⊢
      cases ht : T.token (x :: t) with
      | bad e p => rw [ht] at h; exact absurd h (token_e _ _ _ ht)
      | ok k n =>
        rw [ht] at h
        simp only at h ⊢
        split
        · rfl
        · next h2 => rw [if_neg h2] at h; exact absurd h h2
  · next h =>
    cases l with
    | nil => exact absurd rfl h
    | cons x t =>
      unfold toksS at h ⊢
      simp only at h ⊢
      cases ht : T.token (x :: t) with
      | bad e p => rfl
      | ok k n =>
        rw [ht] at h
        simp only at h ⊢
        split
        · next h2 => rw [if_pos h2] at h; exact absurd rfl h
        · rfl
theorem joinT_end (acc : List T.Tok) (f : Nat) : joinT acc (toksS f []) = (acc, 0, U.zero) := by simp [joinT, toksS]
theorem joinT_bad (acc : List T.Tok) (f : Nat) (x : U.Pt) (t : List U.Pt) (e : Int) (p : U.Pos) (h : T.token (x :: t) = .bad e p) : joinT acc (toksS f (x :: t)) = ([], e, p) := by
  have he := token_e _ _ _ h
  unfold joinT toksS
  simp only [h]
  rw [if_neg he]
theorem joinT_ok (acc : List T.Tok) (f : Nat) (x : U.Pt) (t : List U.Pt) (k : T.Tok) (n : Nat) (h : T.token (x :: t) = .ok k n) :
    joinT acc (toksS (f + 1) (x :: t)) = joinT (acc ++ [k]) (toksS f (T.skip false ((x :: t).drop n))) := by
  have e : toksS (f + 1) (x :: t) = (if (toksS f (T.skip false ((x :: t).drop n))).2.1 = 0 then (k :: (toksS f (T.skip false ((x :: t).drop n))).1, 0, U.zero) else ([], (toksS f (T.skip false ((x :: t).drop n))).2)) := by
    rw [toksS, h]
    simp only
    rw [toks_succ]
  rw [e]
  obtain ⟨r, hr⟩ : ∃ r, toksS f (T.skip false ((x :: t).drop n)) = r := ⟨_, rfl⟩
  rw [hr]
  unfold joinT
  by_cases h0 : r.2.1 = 0
  · rw [if_pos h0, if_pos h0, if_pos rfl]
    simp
  · rw [if_neg h0, if_neg h0, if_neg h0]
end Go.Proofs.YtaojgcioljcpmaaGreatDoor
