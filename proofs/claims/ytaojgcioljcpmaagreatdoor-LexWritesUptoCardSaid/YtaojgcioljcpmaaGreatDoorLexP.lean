/- Plain facts: a token stands where it begins. No program is in sight. -/
import Derived.Test.YtaojgcioljcpmaaGreatDoorLexPlain
namespace Go.Proofs.YtaojgcioljcpmaaGreatDoor
open Go

theorem quote_p (P : U.Pos) (l : List U.Pt) (acc : List UInt8) (n : Nat) (t : T.Tok) (k : Nat) (h : T.quote P l acc n = .ok t k) : t.p = P := by
  fun_induction T.quote P l acc n with
  | case1 => cases h
  | case2 => cases h
  | case3 => injection h with h1 h2; rw [← h1]
  | case4 => cases h
  | case5 => cases h
  | case6 => rename_i ih; exact ih h
  | case7 => rename_i ih; exact ih h
theorem word_p (l : List U.Pt) (t : T.Tok) (n : Nat) (h : T.word l = .ok t n) : t.p = T.headP l := by
  unfold T.word at h
  obtain ⟨X, hX⟩ : ∃ X, T.textOf (l.take (T.count [2, 3, 4, 5] l)) = X := ⟨_, rfl⟩
  obtain ⟨N, hN⟩ : ∃ N, T.count [2, 3, 4, 5] l = N := ⟨_, rfl⟩
  rw [hN] at hX
  simp only [hN, hX] at h
  by_cases h1 : T.words.contains X = true
  · rw [if_pos h1] at h; injection h with h1 h2; rw [← h1]
  · rw [if_neg h1] at h
    by_cases h2 : T.prims.contains X = true
    · rw [if_pos h2] at h; injection h with h1 h2; rw [← h1]
    · rw [if_neg h2] at h
      by_cases h3 : 24 < X.length
      · rw [if_pos h3] at h; cases h
      · rw [if_neg h3] at h; injection h with h1 h2; rw [← h1]
theorem number_p (l : List U.Pt) (t : T.Tok) (n : Nat) (h : T.number l = .ok t n) : t.p = T.headP l := by
  unfold T.number at h
  by_cases h1 : T.peek l 0 = 48 ∧ T.kindR (T.peek l 1) = 2
  · rw [if_pos h1] at h; cases h
  · rw [if_neg h1] at h
    obtain ⟨D, hD⟩ : ∃ D, l.take (T.count [2] l) = D := ⟨_, rfl⟩
    obtain ⟨V, hV⟩ : ∃ V, T.numOf D = V := ⟨_, rfl⟩
    simp only [hD, hV] at h
    by_cases h2 : 1099511627776 < V
    · rw [if_pos h2] at h; cases h
    · rw [if_neg h2] at h; injection h with h1 h2; rw [← h1]
theorem res_p {q : List UInt8} {P : U.Pos} {t : T.Tok} {n : Nat} (h : (if q = [] then T.Res.bad 100 P else T.Res.ok ⟨5, q, 0, P⟩ q.length) = .ok t n) : t.p = P := by
  by_cases h1 : q = []
  · rw [if_pos h1] at h; cases h
  · rw [if_neg h1] at h; injection h with h1 h2; rw [← h1]
theorem sign_p (l : List U.Pt) (t : T.Tok) (n : Nat) (h : T.sign l = .ok t n) : t.p = T.headP l := by
  have e : ∀ q, T.bestOf l T.signs = q → (if q = [] then T.Res.bad 100 (T.headP l) else T.Res.ok ⟨5, q, 0, T.headP l⟩ q.length) = .ok t n := by
    intro q hq
    rw [← h]
    unfold T.sign
    rw [hq]
  exact res_p (e _ rfl)
theorem quoted_p (l : List U.Pt) (t : T.Tok) (n : Nat) (h : T.quoted l = .ok t n) : t.p = T.headP l := by
  unfold T.quoted at h
  exact quote_p _ _ _ _ _ _ h

end Go.Proofs.YtaojgcioljcpmaaGreatDoor
