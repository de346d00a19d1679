/- The walk of LexBack. -/
import Derived.Test.YtaojgcioljcpmaaGreatDoorGrt
import Derived.Test.YtaojgcioljcpmaaGreatDoorLexS
namespace Go.Proofs.YtaojgcioljcpmaaGreatDoor
open Go.RowKit

theorem toksS_bad (f : Nat) : ∀ (l : List U.Pt), (toksS f l).2.1 ≠ 0 → (toksS f l).1 = []
  | [], h => absurd rfl h
  | x :: t, h => by
    unfold toksS at h ⊢
    simp only at h ⊢
    cases ht : T.token (x :: t) with
    | bad e p => rfl
    | ok k n =>
      rw [ht] at h
      simp only at h ⊢
      by_cases h0 : (T.toks f ((x :: t).drop n)).2.1 = 0
      · rw [if_pos h0] at h; exact absurd rfl h
      · rw [if_neg h0]
theorem tokens_bad (s : List UInt8) (h : (T.tokens s).2.1 ≠ 0) : (T.tokens s).1 = [] := by
  unfold T.tokens at h ⊢
  by_cases h0 : U.eE s = 0
  · rw [if_pos h0] at h ⊢
    rw [toks_succ] at h ⊢
    exact toksS_bad _ _ h
  · rw [if_neg h0]
theorem quote_text (P : U.Pos) (l : List U.Pt) (acc : List UInt8) (n : Nat) (k : T.Tok) (m : Nat) (h : T.quote P l acc n = .ok k m) : k.t.length ≤ acc.length + 4 * l.length := by
  fun_induction T.quote P l acc n with
  | case1 => cases h
  | case2 => cases h
  | case3 =>
    injection h with h1 h2
    subst h1
    simp only; omega
  | case4 => cases h
  | case5 => cases h
  | case6 =>
    rename_i hw ih
    have h1 := ih h
    clear ih
    rename_i y t'
    have h2 := U.enc_length (T.what y.r)
    rw [List.length_append] at h1
    simp only [List.length_cons]
    omega
  | case7 =>
    rename_i ih
    have h1 := ih h
    clear ih h
    rename_i x t _ _ _ _ _
    have h2 := U.enc_length x.r
    rw [List.length_append] at h1
    simp only [List.length_cons]
    omega
theorem may_n0 (k : T.Tok) (h : T.may k = true) : 0 ≤ k.n ∧ k.n ≤ 1099511627776 := by
  unfold T.may at h
  repeat' split at h
  all_goals first
    | (simp only [Bool.and_eq_true, decide_eq_true_eq] at h; omega)
    | cases h
theorem word_k (l : List U.Pt) (k : T.Tok) (n : Nat) (h : T.word l = .ok k n) : k.k ≠ 4 := by
  unfold T.word at h
  obtain ⟨X, hX⟩ : ∃ X, T.textOf (l.take (T.count [2, 3, 4, 5] l)) = X := ⟨_, rfl⟩
  obtain ⟨N, hN⟩ : ∃ N, T.count [2, 3, 4, 5] l = N := ⟨_, rfl⟩
  rw [hN] at hX
  simp only [hN, hX] at h
  by_cases h1 : T.words.contains X = true
  · rw [if_pos h1] at h
    injection h with h1 h2
    rw [← h1]
    first | (show (1 : Int) ≠ 4; decide) | (show (2 : Int) ≠ 4; decide) | (show (5 : Int) ≠ 4; decide)
  · rw [if_neg h1] at h
    by_cases h2 : T.prims.contains X = true
    · rw [if_pos h2] at h
      injection h with h1 h2
      rw [← h1]
      show (6 : Int) ≠ 4
      decide
    · rw [if_neg h2] at h
      by_cases h3 : 24 < X.length
      · rw [if_pos h3] at h; cases h
      · rw [if_neg h3] at h
        injection h with h1 h2
        rw [← h1]
        show (if T.kindR (T.peek l 0) = 4 then (2 : Int) else 1) ≠ 4
        split <;> decide
theorem number_k (l : List U.Pt) (k : T.Tok) (n : Nat) (h : T.number l = .ok k n) : k.k ≠ 4 := by
  unfold T.number at h
  by_cases h1 : T.peek l 0 = 48 ∧ T.kindR (T.peek l 1) = 2
  · rw [if_pos h1] at h; cases h
  · rw [if_neg h1] at h
    obtain ⟨V, hV⟩ : ∃ V, T.numOf (l.take (T.count [2] l)) = V := ⟨_, rfl⟩
    simp only [hV] at h
    by_cases h2 : 1099511627776 < V
    · rw [if_pos h2] at h; cases h
    · rw [if_neg h2] at h
      injection h with h3 h5
      rw [← h3]
      show (3 : Int) ≠ 4
      decide
theorem sign_k2 (l : List U.Pt) (q : List UInt8) (x : T.Res) (hx : x = if q = [] then T.Res.bad 100 (T.headP l) else .ok ⟨5, q, 0, T.headP l⟩ q.length) (k : T.Tok) (n : Nat) (h : x = .ok k n) : k.k ≠ 4 := by
  rw [hx] at h
  by_cases h0 : q = []
  · rw [if_pos h0] at h; cases h
  · rw [if_neg h0] at h
    injection h with h1 h2
    rw [← h1]
    show (5 : Int) ≠ 4
    decide
theorem sign_k (l : List U.Pt) (k : T.Tok) (n : Nat) (h : T.sign l = .ok k n) : k.k ≠ 4 := sign_k2 l _ _ (sign_as l _ rfl) k n h
theorem quoted_text (l : List U.Pt) (k : T.Tok) (n : Nat) (h : T.quoted l = .ok k n) : k.t.length ≤ 4 * l.length := by
  unfold T.quoted at h
  have := quote_text _ _ _ _ _ _ h
  rw [List.length_tail, List.length_nil] at this
  omega
theorem low_text (k : T.Tok) (hm : T.may k = true) (h4 : k.k ≠ 4) : k.t.length ≤ 24 := by
  have h1 := T.one_len k hm h4
  by_cases h3 : k.k = 3
  · unfold T.may at hm
    rw [if_neg (by omega), if_neg (by omega), if_pos h3] at hm
    simp only [Bool.and_eq_true, decide_eq_true_eq] at hm
    rw [hm.2]; simp
  · rw [T.one_text k h3 h4] at h1
    omega
theorem tok_text (l : List U.Pt) (k : T.Tok) (n : Nat) (hm : T.may k = true) (h : T.token l = .ok k n) : k.t.length ≤ 24 + 4 * l.length := by
  rcases token_cases l with ⟨e, _⟩ | ⟨e, _⟩ | e | e
  · rw [e] at h
    have := low_text k hm (word_k _ _ _ h)
    omega
  · rw [e] at h
    have := low_text k hm (number_k _ _ _ h)
    omega
  · rw [e] at h
    have := quoted_text _ _ _ h
    omega
  · rw [e] at h
    have := low_text k hm (sign_k _ _ _ h)
    omega
theorem toks_text : ∀ (f : Nat) (l : List U.Pt), (∀ x ∈ l, Lib.validRune x.r = true) → ∀ k ∈ (T.toks f l).1, k.t.length ≤ 24 + 4 * l.length
  | 0, _, _, k, hk => by simp [T.toks] at hk
  | f + 1, l, hv, k, hk => by
    have hmay := T.may_toks (f + 1) l hv k hk
    rw [toks_succ] at hk
    obtain ⟨i, hi⟩ := skip_drop false l
    rw [hi] at hk
    obtain ⟨L, hL⟩ : ∃ L, l.drop i = L := ⟨_, rfl⟩
    have hLl : L.length ≤ l.length := by rw [← hL, List.length_drop]; omega
    have hvL : ∀ x ∈ L, Lib.validRune x.r = true := fun x hx => hv x (by rw [← hL] at hx; exact List.mem_of_mem_drop hx)
    rw [hL] at hk
    cases L with
    | nil => simp [toksS] at hk
    | cons x t =>
      unfold toksS at hk
      simp only at hk
      cases ht : T.token (x :: t) with
      | bad e p => rw [ht] at hk; simp at hk
      | ok k' n =>
        rw [ht] at hk
        simp only at hk
        have ih := toks_text f ((x :: t).drop n) (fun y hy => hvL y (List.mem_of_mem_drop hy))
        by_cases h0 : (T.toks f ((x :: t).drop n)).2.1 = 0
        · rw [if_pos h0] at hk
          rcases List.mem_cons.1 hk with h1 | h1
          · rw [h1] at hmay ⊢
            have := tok_text _ _ _ hmay ht
            omega
          · have := ih k h1
            rw [List.length_drop] at this
            omega
        · rw [if_neg h0] at hk; simp at hk
theorem tok_ok (s : List UInt8) : ∀ k ∈ (T.tokens s).1, TokOk k := by
  intro k hk
  have hmay := T.may_tokens s k hk
  have hn := may_n0 k hmay
  refine ⟨?_, by omega, by omega⟩
  unfold T.tokens at hk
  split at hk
  · have := toks_text _ _ (pts_small s).2 k hk
    have := (pts_small s).1
    omega
  · simp at hk
theorem same_L : ∀ (m l : List T.Tok), sameT false m l = T.sameL m l
  | [], [] => rfl
  | [], _ :: _ => rfl
  | _ :: _, [] => rfl
  | x :: m, y :: l => by
    have := same_L m l
    unfold sameT T.sameL T.same1
    rw [this]
    simp
end Go.Proofs.YtaojgcioljcpmaaGreatDoor
