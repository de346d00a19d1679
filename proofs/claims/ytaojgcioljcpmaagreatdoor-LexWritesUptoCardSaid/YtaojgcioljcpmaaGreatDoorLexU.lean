/- Plain law: tokens that are written are read as they were; what is told may be. No program is in sight. -/
import Derived.Test.YtaojgcioljcpmaaGreatDoorLexT
namespace Go.Proofs.YtaojgcioljcpmaaGreatDoor.T
open U Go.Lib

/-- a token without its place -/
def bare (t : Tok) : Tok := ⟨t.k, t.t, t.n, zero⟩
def same1 (x y : Tok) : Bool := decide (x.k = y.k) && decide (x.t = y.t) && decide (x.n = y.n)
def sameL : List Tok → List Tok → Bool
  | [], [] => true
  | x :: a, y :: b => same1 x y && sameL a b
  | _, _ => false
theorem sameL_rel {R : Pos → Pos → Prop} : ∀ {m ts : List Tok}, TRels R m (ts.map bare) → sameL m ts = true
  | [], [], _ => rfl
  | x :: m, y :: ts, h => by
    have := sameL_rel h.2
    obtain ⟨h1, h2, h3, _⟩ := h.1
    unfold sameL
    rw [this, Bool.and_true]
    unfold same1
    simp only [bare] at h1 h2 h3
    rw [h1, h2, h3]
    simp
  | [], _ :: _, h => h.elim
  | _ :: _, [], h => h.elim
theorem Sep.nil : Sep [] := .inl rfl
theorem Sep.cons (z : Int) (t : List Int) (h : kindR z = 1) : Sep (z :: t) := .inr ⟨z, t, rfl, h⟩

theorem toks_good (t : Tok) (zs rest : List Int) (g : Good t zs) (hr : Sep rest) (f : Nat) :
    toks (f + 1) (mk (zs ++ rest)) = (if (toks f (mk rest)).2.1 = 0 then (bare t :: (toks f (mk rest)).1, 0, zero) else ([], (toks f (mk rest)).2)) := by
  rw [toks_succ, g.skip rest hr]
  have ht := g.told rest hr
  have hd := mk_drop zs rest
  have hp := g.pos
  cases zs with
  | nil => simp at hp
  | cons z zs =>
    obtain ⟨n, hn⟩ : ∃ n, (z :: zs).length = n := ⟨_, rfl⟩
    rw [hn] at ht hd
    have e : mk (z :: zs ++ rest) = ⟨z, zero⟩ :: mk (zs ++ rest) := rfl
    rw [e] at ht hd ⊢
    unfold toksS
    simp only [ht, hd]
    rfl
def Gap (g : List Int) : Prop := okL g ∧ ∀ rest, skip false (mk (g ++ rest)) = skip false (mk rest)
theorem toks_gap (g rest : List Int) (h : Gap g) (f : Nat) : toks f (mk (g ++ rest)) = toks f (mk rest) := by
  cases f with
  | zero => rfl
  | succ f => rw [toks_succ, toks_succ, h.2 rest]
theorem Gap.nil : Gap [] := ⟨okL_nil, fun _ => rfl⟩
theorem Gap.app {a b : List Int} (ha : Gap a) (hb : Gap b) : Gap (a ++ b) :=
  ⟨okL_app ha.1 hb.1, fun rest => by rw [List.append_assoc, ha.2, hb.2]⟩
theorem Gap.one (z : Int) (h : kindR z = 1) (hv : 0 ≤ z ∧ z < 55296) : Gap [z] :=
  ⟨okL_cons (valid_small hv) okL_nil, fun rest => by
    show skip false (⟨z, zero⟩ :: mk rest) = _
    rw [skip, if_pos h]⟩
/-- a piece of a text: what stands ahead of a token; the token; as it is written -/
structure Piece where
  g : List Int
  z : List Int
  t : Tok
def Piece.Ok (x : Piece) : Prop := Gap x.g ∧ Good x.t x.z ∧ Sep (x.g ++ x.z) ∧ 1 ≤ x.g.length
def body (l : List Piece) : List Int := l.flatMap fun x => x.g ++ x.z
theorem body_sep : ∀ (l : List Piece), (∀ x ∈ l, x.Ok) → Sep (body l)
  | [], _ => Sep.nil
  | x :: l, h => by
    obtain ⟨_, _, h3, h4⟩ := h x List.mem_cons_self
    show Sep (x.g ++ x.z ++ body l)
    rcases h3 with h3 | ⟨z, t, h3, hz⟩
    · have := congrArg List.length h3
      rw [List.length_append, List.length_nil] at this
      omega
    · rw [h3]; exact Sep.cons z _ hz
theorem body_ok : ∀ (l : List Piece), (∀ x ∈ l, x.Ok) → okL (body l)
  | [], _ => okL_nil
  | x :: l, h => by
    obtain ⟨h1, h2, _, _⟩ := h x List.mem_cons_self
    show okL (x.g ++ x.z ++ body l)
    exact okL_app (okL_app h1.1 h2.ok) (body_ok l (fun y hy => h y (List.mem_cons_of_mem _ hy)))
theorem body_len : ∀ (l : List Piece), (∀ x ∈ l, x.Ok) → l.length ≤ (body l).length
  | [], _ => Nat.le_refl _
  | x :: l, h => by
    obtain ⟨_, _, _, h4⟩ := h x List.mem_cons_self
    have := body_len l (fun y hy => h y (List.mem_cons_of_mem _ hy))
    show (x :: l).length ≤ (x.g ++ x.z ++ body l).length
    rw [List.length_append, List.length_append, List.length_cons]
    omega
theorem toks_body : ∀ (l : List Piece), (∀ x ∈ l, x.Ok) → ∀ f, l.length ≤ f → toks f (mk (body l)) = (l.map (fun x => bare x.t), 0, zero)
  | [], _, f, _ => by
    show toks f (mk []) = _
    cases f <;> rfl
  | x :: l, h, f, hf => by
    obtain ⟨h1, h2, h3, h4⟩ := h x List.mem_cons_self
    have hl : ∀ y ∈ l, y.Ok := fun y hy => h y (List.mem_cons_of_mem _ hy)
    cases f with
    | zero => simp at hf
    | succ f =>
      show toks (f + 1) (mk (x.g ++ x.z ++ body l)) = _
      rw [List.append_assoc, toks_gap _ _ h1, toks_good x.t x.z (body l) h2 (body_sep l hl), toks_body l hl f (by simpa using hf)]
      rfl
theorem tokens_enc (zs : List Int) (ts : List Tok) (N : Nat) (ho : okL zs) (hl : (encL zs).length ≤ 4000) (hN : N ≤ zs.length + 1) (h : ∀ f, N ≤ f → toks f (mk zs) = (ts.map bare, 0, zero)) :
    ∃ m, tokens (encL zs) = (m, 0, zero) ∧ sameL m ts = true := by
  obtain ⟨h1, h2⟩ := pts_enc zs ho hl
  have hr := rels_mk (pts (encL zs))
  rw [h2] at hr
  have hlen : (pts (encL zs)).length = zs.length := by
    have e := congrArg List.length h2
    rw [List.length_map] at e
    exact e
  obtain ⟨a1, a2⟩ := toks_rel ((pts (encL zs)).length + 1) _ _ hr
  rw [h _ (by omega)] at a1 a2
  refine ⟨(toks ((pts (encL zs)).length + 1) (pts (encL zs))).1, ?_, sameL_rel a2⟩
  unfold tokens
  rw [if_pos h1]
  exact Prod.ext rfl (Prod.ext a1 (toks_zero _ _ a1))

/-! ### what is told may be -/
theorem kind_back (r : Int) (h : [2, 3, 4, 5].contains (kindR r) = true) : encodeRune r = [r.toNat.toUInt8] ∧ inW r.toNat.toUInt8 = true ∧ (kindR r = 3 → small r.toNat.toUInt8 = true) ∧ (kindR r = 4 → great r.toNat.toUInt8 = true) := by
  have hk : kindR r = 2 ∨ kindR r = 3 ∨ kindR r = 4 ∨ kindR r = 5 := by
    have := List.contains_iff_mem.1 h
    simpa using this
  have hr : (48 ≤ r ∧ r ≤ 57 ∧ kindR r = 2) ∨ (97 ≤ r ∧ r ≤ 122 ∧ kindR r = 3) ∨ (65 ≤ r ∧ r ≤ 90 ∧ kindR r = 4) ∨ ((r = 95 ∨ r = 39) ∧ kindR r = 5) := by
    have hkk := hk
    unfold kindR at hk ⊢
    repeat' split at hk
    all_goals first | omega | skip
    all_goals (repeat' split) <;> omega
  have hu := u8_nat r.toNat (by omega)
  refine ⟨enc_one r (by omega) (by omega), ?_, ?_, ?_⟩
  · unfold inW small great
    simp only [Bool.or_eq_true, decide_eq_true_eq, hu]
    omega
  · intro h3
    unfold small
    simp only [decide_eq_true_eq, hu]
    omega
  · intro h3
    unfold great
    simp only [decide_eq_true_eq, hu]
    omega
theorem text_inW : ∀ (l : List Pt), (∀ x ∈ l, isIn [2, 3, 4, 5] x = true) → (textOf l).all inW = true
  | [], _ => rfl
  | x :: l, h => by
    have hx := kind_back x.r (h x List.mem_cons_self)
    have := text_inW l (fun y hy => h y (List.mem_cons_of_mem _ hy))
    show (encodeRune x.r ++ textOf l).all inW = true
    rw [hx.1, List.all_append, this]
    simp [hx.2.1]
theorem count_all' (ks : List Int) : ∀ (l : List Pt), ∀ x ∈ l.take (count ks l), isIn ks x = true
  | [], x, hx => by simp [count] at hx
  | y :: t, x, hx => by
    unfold count at hx
    by_cases h : isIn ks y = true
    · rw [if_pos h, List.take_succ_cons] at hx
      rcases List.mem_cons.1 hx with h1 | h1
      · rw [h1]; exact h
      · exact count_all' ks t x h1
    · rw [if_neg h] at hx; simp at hx
theorem may_w (X : List UInt8) (p : Pos) (h : words.contains X = true) : may ⟨5, X, 0, p⟩ = true := by
  show ((words.contains X || signs.contains X) && decide ((0 : Int) = 0)) = true
  rw [h]; rfl
theorem may_s (X : List UInt8) (p : Pos) (h : signs.contains X = true) : may ⟨5, X, 0, p⟩ = true := by
  show ((words.contains X || signs.contains X) && decide ((0 : Int) = 0)) = true
  rw [h, Bool.or_true]; rfl
theorem may_p (X : List UInt8) (p : Pos) (h : prims.contains X = true) : may ⟨6, X, 0, p⟩ = true := by
  show (prims.contains X && decide ((0 : Int) = 0)) = true
  rw [h]; rfl
theorem may_n (X : List UInt8) (p : Pos) (big : Bool) (k : Int) (hk : k = if big then 2 else 1) (h : name X big = true) : may ⟨k, X, 0, p⟩ = true := by
  subst hk
  cases big
  · show (name X false && decide ((0 : Int) = 0)) = true
    rw [h]; rfl
  · show (name X true && decide ((0 : Int) = 0)) = true
    rw [h]; rfl
theorem may_word (x : Pt) (t : List Pt) (hx : kindR x.r = 3 ∨ kindR x.r = 4) (k : Tok) (n : Nat) (h : word (x :: t) = .ok k n) : may k = true := by
  unfold word at h
  have hin := count_all' [2, 3, 4, 5] (x :: t)
  have hc : count [2, 3, 4, 5] (x :: t) = count [2, 3, 4, 5] t + 1 := by
    rw [count, if_pos]
    unfold isIn
    rcases hx with e | e <;> rw [e] <;> decide
  rw [hc] at hin
  have hall := text_inW _ hin
  have hfirst : (kindR x.r = 3 → firstIs (textOf ((x :: t).take (count [2, 3, 4, 5] t + 1))) false = true) ∧ (kindR x.r = 4 → firstIs (textOf ((x :: t).take (count [2, 3, 4, 5] t + 1))) true = true) := by
    have hb := kind_back x.r (by rcases hx with e | e <;> rw [e] <;> decide)
    rw [List.take_succ_cons]
    show (_ → firstIs (encodeRune x.r ++ _) false = true) ∧ (_ → firstIs (encodeRune x.r ++ _) true = true)
    rw [hb.1]
    exact ⟨hb.2.2.1, hb.2.2.2⟩
  obtain ⟨X, hX⟩ : ∃ X, textOf ((x :: t).take (count [2, 3, 4, 5] t + 1)) = X := ⟨_, rfl⟩
  have hp : peek (x :: t) 0 = x.r := rfl
  simp only [hc, hX, hp] at h hall hfirst
  by_cases h1 : words.contains X = true
  · rw [if_pos h1] at h
    injection h with h2 h3
    subst h2
    exact may_w X _ h1
  · rw [if_neg h1] at h
    by_cases h2 : prims.contains X = true
    · rw [if_pos h2] at h
      injection h with h3 h4
      subst h3
      exact may_p X _ h2
    · rw [if_neg h2] at h
      by_cases h3 : 24 < X.length
      · rw [if_pos h3] at h; cases h
      · rw [if_neg h3] at h
        injection h with h4 h5
        subst h4
        have hn : ∀ big, firstIs X big = true → name X big = true := by
          intro big hb
          unfold name
          rw [hb, hall, decide_eq_true (by omega : X.length ≤ 24)]
          simp only [Bool.not_eq_true] at h1 h2
          rw [h1, h2]
          rfl
        rcases hx with e | e
        · exact may_n X _ false _ (by rw [e]; rfl) (hn false (hfirst.1 e))
        · exact may_n X _ true _ (by rw [e]; rfl) (hn true (hfirst.2 e))
theorem may_number (l : List Pt) (k : Tok) (n : Nat) (h : number l = .ok k n) : may k = true := by
  unfold number at h
  obtain ⟨V, hV⟩ : ∃ V, numOf (l.take (count [2] l)) = V := ⟨_, rfl⟩
  simp only [hV] at h
  by_cases h1 : peek l 0 = 48 ∧ kindR (peek l 1) = 2
  · rw [if_pos h1] at h; cases h
  · rw [if_neg h1] at h
    by_cases h2 : 1099511627776 < V
    · rw [if_pos h2] at h; cases h
    · rw [if_neg h2] at h
      injection h with h3 h4
      subst h3
      show (decide (0 ≤ (V : Int) ∧ (V : Int) ≤ 1099511627776) && decide (([] : List UInt8) = [])) = true
      rw [decide_eq_true (by omega : 0 ≤ (V : Int) ∧ (V : Int) ≤ 1099511627776)]
      rfl
theorem quote_enc (P : Pos) (l : List Pt) (acc : List UInt8) (n : Nat) (k : Tok) (m : Nat) (hv : ∀ x ∈ l, validRune x.r = true) (ha : ∃ zs, okL zs ∧ acc = encL zs) (h : quote P l acc n = .ok k m) :
    k.k = 4 ∧ k.n = 0 ∧ ∃ zs, okL zs ∧ k.t = encL zs := by
  fun_induction quote P l acc n with
  | case1 => cases h
  | case2 => cases h
  | case3 =>
    injection h with h1 h2
    subst h1
    exact ⟨rfl, rfl, ha⟩
  | case4 => cases h
  | case5 => cases h
  | case6 =>
    rename_i ih
    refine ih (fun z hz => hv z (by simp [hz])) ?_ h
    obtain ⟨zs, hz, rfl⟩ := ha
    rename_i y t' hw
    refine ⟨zs ++ [what y.r], okL_app hz (okL_cons (valid_small ?_) okL_nil), ?_⟩
    · unfold what at hw ⊢
      repeat' split at hw
      all_goals (repeat' split) <;> omega
    · rw [encL_app, encL_cons, encL_nil, List.append_nil]
  | case7 =>
    rename_i ih
    refine ih (fun z hz => hv z (by simp [hz])) ?_ h
    obtain ⟨zs, hz, rfl⟩ := ha
    rename_i x t _ _ _ _
    refine ⟨zs ++ [x.r], okL_app hz (okL_cons (hv x (by simp)) okL_nil), ?_⟩
    rw [encL_app, encL_cons, encL_nil, List.append_nil]
theorem may_quoted (l : List Pt) (hv : ∀ x ∈ l, validRune x.r = true) (k : Tok) (n : Nat) (h : quoted l = .ok k n) : may k = true := by
  unfold quoted at h
  obtain ⟨h1, h2, zs, hz, ht⟩ := quote_enc _ _ _ _ _ _ (fun x hx => hv x (List.mem_of_mem_tail hx)) ⟨[], okL_nil, rfl⟩ h
  unfold may
  rw [h1, if_neg (by decide), if_neg (by decide), if_neg (by decide), if_pos rfl, ht, whole_enc zs hz, h2]
  rfl
theorem best_mem (l : List Pt) : ∀ (ss : List (List UInt8)) (b0 : List UInt8), ss.foldl (better l) b0 = b0 ∨ ss.foldl (better l) b0 ∈ ss
  | [], b0 => .inl rfl
  | s :: ss, b0 => by
    rw [List.foldl_cons]
    rcases best_mem l ss (better l b0 s) with h | h
    · rw [h]
      unfold better
      split
      · exact .inr List.mem_cons_self
      · exact .inl rfl
    · exact .inr (List.mem_cons_of_mem _ h)
theorem may_sign2 (l : List Pt) (q : List UInt8) (x : Res) (hx : x = if q = [] then Res.bad 100 (headP l) else .ok ⟨5, q, 0, headP l⟩ q.length) (hq : q = [] ∨ q ∈ signs) (k : Tok) (n : Nat) (h : x = .ok k n) : may k = true := by
  rw [hx] at h
  by_cases h0 : q = []
  · rw [if_pos h0] at h; cases h
  · rw [if_neg h0] at h
    injection h with h1 h2
    subst h1
    rcases hq with h3 | h3
    · exact absurd h3 h0
    · have : signs.contains q = true := by simpa using h3
      exact may_s q _ this
theorem may_sign (l : List Pt) (k : Tok) (n : Nat) (h : sign l = .ok k n) : may k = true :=
  may_sign2 l _ _ (sign_as l _ rfl) (best_mem l signs []) k n h
theorem may_token (x : Pt) (t : List Pt) (hv : ∀ y ∈ x :: t, validRune y.r = true) (k : Tok) (n : Nat) (h : token (x :: t) = .ok k n) : may k = true := by
  rcases token_cases (x :: t) with ⟨e, hk⟩ | ⟨e, _⟩ | e | e
  · rw [e] at h; exact may_word x t hk k n h
  · rw [e] at h; exact may_number _ k n h
  · rw [e] at h; exact may_quoted _ hv k n h
  · rw [e] at h; exact may_sign _ k n h
theorem may_toks : ∀ (f : Nat) (l : List Pt), (∀ x ∈ l, validRune x.r = true) → ∀ k ∈ (toks f l).1, may k = true
  | 0, _, _, k, hk => by simp [toks] at hk
  | f + 1, l, hv, k, hk => by
    rw [toks_succ] at hk
    obtain ⟨i, hi⟩ := skip_drop false l
    rw [hi] at hk
    obtain ⟨L, hL⟩ : ∃ L, l.drop i = L := ⟨_, rfl⟩
    have hvL : ∀ x ∈ L, validRune x.r = true := fun x hx => hv x (by rw [← hL] at hx; exact List.mem_of_mem_drop hx)
    rw [hL] at hk
    cases L with
    | nil => simp [toksS] at hk
    | cons x t =>
      unfold toksS at hk
      simp only at hk
      cases ht : token (x :: t) with
      | bad e p => rw [ht] at hk; simp at hk
      | ok k' n =>
        rw [ht] at hk
        simp only at hk
        have ih := may_toks f ((x :: t).drop n) (fun y hy => hvL y (List.mem_of_mem_drop hy))
        by_cases h0 : (toks f ((x :: t).drop n)).2.1 = 0
        · rw [if_pos h0] at hk
          rcases List.mem_cons.1 hk with h1 | h1
          · rw [h1]; exact may_token x t hvL k' n ht
          · exact ih k h1
        · rw [if_neg h0] at hk; simp at hk
theorem scan_valid (s : List UInt8) : ∀ f i p, ∀ x ∈ (scan s f i p).1, validRune x.r = true
  | 0, _, _, x, h => by simp [scan] at h
  | f + 1, i, p, x, h => by
    by_cases hi : i < s.length
    · cases hb : bad (s.drop i) with
      | true => rw [scan_bad s f i p hi hb] at h; simp at h
      | false =>
        rw [scan_good s f i p hi hb] at h
        rcases List.mem_cons.1 h with h1 | h1
        · rw [h1]; exact (enc_dec _ (by rw [List.length_drop]; omega) hb).1
        · exact scan_valid s f _ _ x h1
    · rw [scan_end s _ _ p hi] at h; simp at h
theorem may_tokens (s : List UInt8) : ∀ k ∈ (tokens s).1, may k = true := by
  intro k hk
  unfold tokens at hk
  split at hk
  · refine may_toks _ _ ?_ k hk
    intro x hx
    unfold pts at hx
    repeat' split at hx
    · simp at hx
    · exact scan_valid s _ _ _ x hx
    · simp at hx
  · simp at hk

/-! ### the code's own test -/
theorem may_bare (t k : Tok) (h : same1 t k = true) : may t = may k := by
  unfold same1 at h
  simp only [Bool.and_eq_true, decide_eq_true_eq] at h
  obtain ⟨⟨h1, h2⟩, h3⟩ := h
  unfold may
  rw [h1, h2, h3]
/-- may: the token is told as itself -/
def lmay (t : Tok) : Bool := if t.k = 4 then decide (t.n = 0) && whole t.t else decide ((tokens (one t)).2.1 = 0) && sameL (tokens (one t)).1 [t]
theorem dec_len : ∀ (k n : Nat), n < 10 ^ (k + 1) → (decDigits n).length ≤ k + 1
  | 0, n, h => by rw [decDigits, dif_pos (by simpa using h)]; simp
  | k + 1, n, h => by
    rw [decDigits]
    split
    · simp
    · have := dec_len k (n / 10) (by rw [Nat.pow_succ] at h; omega)
      rw [List.length_append]
      simp; omega
theorem words_len : ∀ w ∈ words, w.length ≤ 24 := by decide
theorem prims_len : ∀ w ∈ prims, w.length ≤ 24 := by decide
theorem signs_len : ∀ w ∈ signs, w.length ≤ 24 := by decide
theorem one_len (t : Tok) (h : may t = true) (h4 : t.k ≠ 4) : (one t).length ≤ 24 := by
  unfold may at h
  by_cases h1 : t.k = 1
  · rw [if_pos h1] at h
    rw [one_text t (by omega) h4]
    unfold name at h
    simp only [Bool.and_eq_true, decide_eq_true_eq] at h
    exact h.1.1.1.1.1
  rw [if_neg h1] at h
  by_cases h2 : t.k = 2
  · rw [if_pos h2] at h
    rw [one_text t (by omega) h4]
    unfold name at h
    simp only [Bool.and_eq_true, decide_eq_true_eq] at h
    exact h.1.1.1.1.1
  rw [if_neg h2] at h
  by_cases h3 : t.k = 3
  · rw [if_pos h3] at h
    simp only [Bool.and_eq_true, decide_eq_true_eq] at h
    unfold one
    rw [if_pos h3]
    unfold itoa
    rw [if_neg (by omega)]
    have := dec_len 12 t.n.toNat (by omega)
    omega
  rw [if_neg h3, if_neg h4] at h
  by_cases h5 : t.k = 5
  · rw [if_pos h5] at h
    rw [one_text t h3 h4]
    simp only [Bool.and_eq_true, Bool.or_eq_true, decide_eq_true_eq] at h
    rcases h.1 with hw | hw
    · exact words_len t.t (by simpa using hw)
    · exact signs_len t.t (by simpa using hw)
  rw [if_neg h5] at h
  by_cases h6 : t.k = 6
  · rw [if_pos h6] at h
    rw [one_text t h3 h4]
    simp only [Bool.and_eq_true, decide_eq_true_eq] at h
    exact prims_len t.t (by simpa using h.1)
  · rw [if_neg h6] at h; cases h
theorem tokens_one (t : Tok) (h : may t = true) (hl : (one t).length ≤ 4000) : ∃ m, tokens (one t) = (m, 0, zero) ∧ sameL m [t] = true := by
  obtain ⟨zs, he, hg⟩ := good_may t h
  rw [he] at hl ⊢
  refine tokens_enc zs [t] 1 hg.ok hl (by omega) (fun f hf => ?_)
  obtain ⟨g, rfl⟩ : ∃ g, f = g + 1 := ⟨f - 1, by omega⟩
  have := toks_good t zs [] hg Sep.nil g
  rw [List.append_nil] at this
  rw [this]
  cases g <;> rfl
theorem lmay_may (t : Tok) : lmay t = may t := by
  unfold lmay
  by_cases h4 : t.k = 4
  · rw [if_pos h4]
    unfold may
    rw [if_neg (by omega), if_neg (by omega), if_neg (by omega), if_pos h4, Bool.and_comm]
  · rw [if_neg h4]
    cases hm : may t with
    | true =>
      obtain ⟨m, h1, h2⟩ := tokens_one t hm (by have := one_len t hm h4; omega)
      rw [h1, h2]
      rfl
    | false =>
      rw [Bool.eq_false_iff]
      intro h
      simp only [Bool.and_eq_true, decide_eq_true_eq] at h
      have hmt := may_tokens (one t)
      obtain ⟨M, hM⟩ : ∃ M, (tokens (one t)).1 = M := ⟨_, rfl⟩
      rw [hM] at h hmt
      match M, h, hmt with
      | [], h, _ => simp [sameL] at h
      | [k], h, hmt =>
        have h1 : same1 k t = true := by simpa [sameL] using h.2
        have := hmt k List.mem_cons_self
        rw [may_bare k t h1, hm] at this
        cases this
      | _ :: _ :: _, h, _ => simp [sameL] at h

/-! ### texts of many tokens -/
def tailW (l : List Tok) : List UInt8 := l.flatMap fun t => 32 :: one t
def joined : List Tok → List UInt8
  | [] => []
  | t :: l => one t ++ tailW l
/-- what Write tells -/
def write (l : List Tok) : List UInt8 × Int := if l.all may then (if 4000 < (joined l).length then ([], 3) else (joined l, 0)) else ([], 2)
theorem pieces : ∀ (l : List Tok), (∀ t ∈ l, may t = true) → ∃ ps : List Piece, (∀ x ∈ ps, x.Ok) ∧ ps.map (·.t) = l ∧ encL (body ps) = tailW l
  | [], _ => ⟨[], by simp, rfl, rfl⟩
  | t :: l, h => by
    obtain ⟨ps, h1, h2, h3⟩ := pieces l (fun x hx => h x (List.mem_cons_of_mem _ hx))
    obtain ⟨zs, he, hg⟩ := good_may t (h t List.mem_cons_self)
    refine ⟨⟨[32], zs, t⟩ :: ps, ?_, ?_, ?_⟩
    · intro x hx
      rcases List.mem_cons.1 hx with rfl | hx
      · exact ⟨Gap.one 32 (by decide) (by omega), hg, Sep.cons 32 zs (by decide), by simp⟩
      · exact h1 x hx
    · simp [h2]
    · show encL ([32] ++ zs ++ body ps) = (32 :: one t) ++ tailW l
      rw [encL_app, h3, encL_app, he]
      rfl
theorem map_bare (ps : List Piece) : ps.map (fun x => bare x.t) = (ps.map (·.t)).map bare := by rw [List.map_map]; rfl
/-- What is written is read as it was. -/
theorem back (l : List Tok) (h : l.all may = true) (hl : (joined l).length ≤ 4000) : ∃ m, tokens (joined l) = (m, 0, zero) ∧ sameL m l = true := by
  have hall : ∀ t ∈ l, may t = true := by simpa using h
  cases l with
  | nil =>
    show ∃ m, tokens (encL []) = (m, 0, zero) ∧ sameL m [] = true
    refine tokens_enc [] [] 0 okL_nil (by simp [encL]) (by omega) (fun f _ => ?_)
    cases f <;> rfl
  | cons t l =>
    obtain ⟨ps, h1, h2, h3⟩ := pieces l (fun x hx => hall x (List.mem_cons_of_mem _ hx))
    obtain ⟨zs, he, hg⟩ := good_may t (hall t List.mem_cons_self)
    have hj : joined (t :: l) = encL (zs ++ body ps) := by
      show one t ++ tailW l = _
      rw [encL_app, he, h3]
    rw [hj] at hl ⊢
    have hpl : ps.length = l.length := by rw [← h2, List.length_map]
    have hbl := body_len ps h1
    have hzl := hg.pos
    refine tokens_enc (zs ++ body ps) (t :: l) (l.length + 1) (okL_app hg.ok (body_ok ps h1)) hl (by rw [List.length_append]; omega) (fun f hf => ?_)
    obtain ⟨g, rfl⟩ : ∃ g, f = g + 1 := ⟨f - 1, by omega⟩
    rw [toks_good t zs (body ps) hg (body_sep ps h1), toks_body ps h1 g (by omega), map_bare, h2]
    rfl

/-- what a byte of a gap stands for -/
def blankOf (c : UInt8) : List UInt8 := if c.toNat % 5 = 4 then [32, 45, 45, 32, 105, 116, 39, 115, 32, 34, 10] else if c.toNat % 5 = 0 then [32] else if c.toNat % 5 = 1 then [9] else if c.toNat % 5 = 2 then [10] else [13]
theorem gap_of (c : UInt8) : Gap (zsOf (blankOf c)) ∧ encL (zsOf (blankOf c)) = blankOf c ∧ 1 ≤ (blankOf c).length ∧ (∀ r, Sep (zsOf (blankOf c) ++ r)) := by
  unfold blankOf
  by_cases h4 : c.toNat % 5 = 4
  · rw [if_pos h4]
    have has := enc_ascii [32, 45, 45, 32, 105, 116, 39, 115, 32, 34, 10] (by decide)
    exact ⟨⟨has.2, fun rest => rfl⟩, has.1, by decide, fun r => Sep.cons 32 _ (by decide)⟩
  rw [if_neg h4]
  by_cases h0 : c.toNat % 5 = 0
  · rw [if_pos h0]; exact ⟨Gap.one 32 (by decide) (by omega), (enc_ascii [32] (by decide)).1, by decide, fun r => Sep.cons 32 _ (by decide)⟩
  rw [if_neg h0]
  by_cases h0 : c.toNat % 5 = 1
  · rw [if_pos h0]; exact ⟨Gap.one 9 (by decide) (by omega), (enc_ascii [9] (by decide)).1, by decide, fun r => Sep.cons 9 _ (by decide)⟩
  rw [if_neg h0]
  by_cases h0 : c.toNat % 5 = 2
  · rw [if_pos h0]; exact ⟨Gap.one 10 (by decide) (by omega), (enc_ascii [10] (by decide)).1, by decide, fun r => Sep.cons 10 _ (by decide)⟩
  rw [if_neg h0]
  exact ⟨Gap.one 13 (by decide) (by omega), (enc_ascii [13] (by decide)).1, by decide, fun r => Sep.cons 13 _ (by decide)⟩
theorem gap_list : ∀ (g : List UInt8), ∃ zs, Gap zs ∧ encL zs = g.flatMap blankOf ∧ (∀ r, Sep r → Sep (zs ++ r))
  | [] => ⟨[], Gap.nil, rfl, fun _ h => h⟩
  | c :: g => by
    obtain ⟨zs, h1, h2, h3⟩ := gap_list g
    obtain ⟨g1, g2, _, g4⟩ := gap_of c
    refine ⟨zsOf (blankOf c) ++ zs, g1.app h1, by rw [encL_app, g2, h2]; rfl, fun r _ => ?_⟩
    rw [List.append_assoc]
    exact g4 _
/-- a text of gaps and tokens: the i-th gap is given, or none -/
def blanked : List Tok → List (List UInt8) → List UInt8
  | [], _ => []
  | t :: l, g => ((g.headD []).flatMap blankOf) ++ (32 :: one t) ++ blanked l g.tail
theorem blank_pieces : ∀ (l : List Tok) (gs : List (List UInt8)), (∀ t ∈ l, may t = true) → ∃ ps : List Piece, (∀ x ∈ ps, x.Ok) ∧ ps.map (·.t) = l ∧ encL (body ps) = blanked l gs
  | [], _, _ => ⟨[], by simp, rfl, rfl⟩
  | t :: l, gs, h => by
    obtain ⟨ps, h1, h2, h3⟩ := blank_pieces l gs.tail (fun x hx => h x (List.mem_cons_of_mem _ hx))
    obtain ⟨zs, he, hg⟩ := good_may t (h t List.mem_cons_self)
    obtain ⟨gz, g1, g2, g3⟩ := gap_list (gs.headD [])
    refine ⟨⟨gz ++ [32], zs, t⟩ :: ps, ?_, ?_, ?_⟩
    · intro x hx
      rcases List.mem_cons.1 hx with rfl | hx
      · refine ⟨g1.app (Gap.one 32 (by decide) (by omega)), hg, ?_, by simp⟩
        rw [List.append_assoc]
        exact g3 _ (Sep.cons 32 zs (by decide))
      · exact h1 x hx
    · simp [h2]
    · show encL (gz ++ [32] ++ zs ++ body ps) = ((gs.headD []).flatMap blankOf) ++ (32 :: one t) ++ blanked l gs.tail
      rw [encL_app, h3, encL_app, encL_app, g2, he, List.append_assoc ((gs.headD []).flatMap blankOf)]
      rfl
/-- What stands between tokens makes no difference. -/
theorem blanks (l : List Tok) (gs : List (List UInt8)) (h : l.all may = true) (hl : (blanked l gs).length ≤ 4000) : ∃ m, tokens (blanked l gs) = (m, 0, zero) ∧ sameL m l = true := by
  have hall : ∀ t ∈ l, may t = true := by simpa using h
  obtain ⟨ps, h1, h2, h3⟩ := blank_pieces l gs hall
  rw [← h3] at hl ⊢
  have hpl : ps.length = l.length := by rw [← h2, List.length_map]
  have hbl := body_len ps h1
  refine tokens_enc (body ps) l l.length (body_ok ps h1) hl (by omega) (fun f hf => ?_)
  rw [toks_body ps h1 f (by omega), map_bare, h2]
end Go.Proofs.YtaojgcioljcpmaaGreatDoor.T
