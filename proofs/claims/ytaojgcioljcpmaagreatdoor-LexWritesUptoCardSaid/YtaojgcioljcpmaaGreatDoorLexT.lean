/- Plain law: each token that may be is told as it is written. No program is in sight. -/
import Derived.Test.YtaojgcioljcpmaaGreatDoorLexR
import Derived.Lib.ItoaNum
namespace Go.Proofs.YtaojgcioljcpmaaGreatDoor.T
open U Go.Lib

def encL (zs : List Int) : List UInt8 := zs.flatMap encodeRune
def okL (zs : List Int) : Prop := ∀ z ∈ zs, validRune z = true
theorem encL_nil : encL [] = [] := rfl
theorem encL_cons (z : Int) (zs : List Int) : encL (z :: zs) = encodeRune z ++ encL zs := rfl
theorem encL_app (a b : List Int) : encL (a ++ b) = encL a ++ encL b := by unfold encL; rw [List.flatMap_append]
theorem okL_app {a b : List Int} (ha : okL a) (hb : okL b) : okL (a ++ b) := by
  intro z hz
  rcases List.mem_append.1 hz with h | h
  · exact ha z h
  · exact hb z h
theorem okL_cons {z : Int} {a : List Int} (hz : validRune z = true) (ha : okL a) : okL (z :: a) := by
  intro x hx
  rcases List.mem_cons.1 hx with h | h
  · rw [h]; exact hz
  · exact ha x h
theorem okL_nil : okL [] := by intro z hz; simp at hz
theorem okL_tail {z : Int} {a : List Int} (h : okL (z :: a)) : okL a := fun x hx => h x (List.mem_cons_of_mem _ hx)
theorem valid_small {z : Int} (h : 0 ≤ z ∧ z < 55296) : validRune z = true := (valid_iff z).2 (.inl h)
theorem valid_nat {z : Int} (h : validRune z = true) : ((z.toNat : Nat) : Int) = z := by rw [valid_iff] at h; omega
theorem encL_length (zs : List Int) : zs.length ≤ (encL zs).length := by
  induction zs with
  | nil => exact Nat.le_refl _
  | cons z zs ih =>
    have := enc_length z
    rw [encL_cons, List.length_append, List.length_cons]; omega

theorem scan_enc (s : List UInt8) : ∀ (zs : List Int) (f i : Nat) (p : Pos), okL zs → s.drop i = encL zs → (encL zs).length ≤ f → (scan s f i p).1.map (·.r) = zs ∧ (scan s f i p).2.2 = true
  | [], f, i, p, _, hd, _ => by
    have hl : ¬ i < s.length := by
      have := congrArg List.length hd
      rw [List.length_drop, encL_nil] at this
      simp at this; omega
    rw [scan_end s f i p hl]
    exact ⟨rfl, rfl⟩
  | z :: zs, f, i, p, ho, hd, hf => by
    have hz := ho z List.mem_cons_self
    have h1 := enc_length z
    rw [encL_cons] at hd
    rw [encL_cons, List.length_append] at hf
    have hl : i < s.length := by
      have := congrArg List.length hd
      rw [List.length_drop, List.length_append] at this
      omega
    cases f with
    | zero => omega
    | succ f =>
      have hb : bad (s.drop i) = false := by rw [hd]; exact bad_enc z _ hz
      have hdec : dec (s.drop i) = (z.toNat, (encodeRune z).length) := by rw [hd]; exact dec_enc z _ hz
      rw [scan_good s f i p hl hb, hdec]
      have hd2 : s.drop (i + (encodeRune z).length) = encL zs := by rw [← List.drop_drop, hd, List.drop_left]
      obtain ⟨i1, i2⟩ := scan_enc s zs f (i + (encodeRune z).length) (next p z.toNat (encodeRune z).length) (okL_tail ho) hd2 (by omega)
      refine ⟨?_, i2⟩
      rw [List.map_cons, i1]
      show ((z.toNat : Nat) : Int) :: zs = _
      rw [valid_nat hz]
theorem pts_enc (zs : List Int) (h : okL zs) (hl : (encL zs).length ≤ 4000) : eE (encL zs) = 0 ∧ (pts (encL zs)).map (·.r) = zs := by
  obtain ⟨h1, h2⟩ := scan_enc (encL zs) zs (encL zs).length 0 U.start h (by rw [List.drop_zero]) (Nat.le_refl _)
  have e1 : (all (encL zs)).1.map (·.r) = zs := h1
  have e2 : (all (encL zs)).2.2 = true := h2
  unfold eE pts
  rw [if_neg (by omega), if_pos e2, if_neg (by omega), if_pos e2]
  exact ⟨rfl, e1⟩
theorem wholeF_enc : ∀ (zs : List Int) (f : Nat), okL zs → (encL zs).length ≤ f → wholeF f (encL zs) = true
  | [], f, _, _ => by cases f <;> rfl
  | z :: zs, f, ho, hf => by
    have hz := ho z List.mem_cons_self
    have h1 := enc_length z
    rw [encL_cons] at hf ⊢
    rw [List.length_append] at hf
    cases f with
    | zero => omega
    | succ f =>
      have hne : (encodeRune z ++ encL zs).isEmpty = false := by
        cases h : encodeRune z with
        | nil => rw [h] at h1; simp at h1
        | cons => rfl
      unfold wholeF
      rw [hne, bad_enc z _ hz, dec_enc z _ hz, List.drop_left, wholeF_enc zs f (okL_tail ho) (by omega)]
      rfl
theorem whole_enc (zs : List Int) (h : okL zs) : whole (encL zs) = true := wholeF_enc zs _ h (Nat.le_refl _)
theorem wholeF_dec : ∀ (f : Nat) (s : List UInt8), wholeF f s = true → ∃ zs, okL zs ∧ s = encL zs
  | 0, s, h => ⟨[], okL_nil, by rw [encL_nil]; simpa [wholeF] using h⟩
  | f + 1, s, h => by
    unfold wholeF at h
    by_cases h0 : s.isEmpty = true
    · exact ⟨[], okL_nil, by rw [encL_nil]; simpa using h0⟩
    · rw [if_neg h0] at h
      have hp : 0 < s.length := List.length_pos_iff.2 (by simpa using h0)
      by_cases hb : bad s = true
      · rw [if_pos hb] at h; cases h
      · rw [if_neg hb] at h
        obtain ⟨e1, e2, e3⟩ := enc_dec s hp (by simpa using hb)
        obtain ⟨zs, hz, hs⟩ := wholeF_dec f _ h
        refine ⟨((dec s).1 : Int) :: zs, okL_cons e1 hz, ?_⟩
        rw [encL_cons, e2, ← hs, List.take_append_drop]
theorem whole_dec {s : List UInt8} (h : whole s = true) : ∃ zs, okL zs ∧ s = encL zs := wholeF_dec _ s h

/-- small bytes as code points -/
def zsOf (a : List UInt8) : List Int := a.map fun b => (b.toNat : Int)
theorem enc_one (z : Int) (h0 : 0 ≤ z) (h1 : z ≤ 127) : encodeRune z = [z.toNat.toUInt8] := by rw [encodeRune, encodeRuneZ_one h0 h1]; rfl
theorem enc_ascii (a : List UInt8) (h : ∀ b ∈ a, b.toNat < 128) : encL (zsOf a) = a ∧ okL (zsOf a) := by
  induction a with
  | nil => exact ⟨rfl, okL_nil⟩
  | cons b a ih =>
    obtain ⟨i1, i2⟩ := ih (fun x hx => h x (List.mem_cons_of_mem _ hx))
    have hb := h b List.mem_cons_self
    refine ⟨?_, okL_cons (valid_small (z := (b.toNat : Int)) (by omega)) i2⟩
    show encL ((b.toNat : Int) :: zsOf a) = _
    rw [encL_cons, i1, enc_one _ (by omega) (by omega)]
    simp

def mk (zs : List Int) : List Pt := zs.map fun r => ⟨r, zero⟩
theorem mk_app (a b : List Int) : mk (a ++ b) = mk a ++ mk b := by unfold mk; rw [List.map_append]
theorem mk_len (a : List Int) : (mk a).length = a.length := by unfold mk; rw [List.length_map]
theorem mk_cons (z : Int) (a : List Int) : mk (z :: a) = ⟨z, zero⟩ :: mk a := rfl
theorem mk_drop (a b : List Int) : (mk (a ++ b)).drop a.length = mk b := by rw [mk_app, ← mk_len a, List.drop_left]
theorem mk_take (a b : List Int) : (mk (a ++ b)).take a.length = mk a := by rw [mk_app, ← mk_len a, List.take_left]
theorem text_mk (a : List Int) : textOf (mk a) = encL a := by
  unfold textOf mk encL
  rw [List.flatMap_map]
theorem peek_mk (a : List Int) (n : Nat) : peek (mk a) n = (a[n]?).getD (-1) := by
  unfold peek mk
  rw [List.getElem?_map]
  cases a[n]? <;> rfl
theorem rels_mk : ∀ (l : List Pt), Rels (fun _ _ => True) l (mk (l.map (·.r)))
  | [] => by simp [mk, Rels]
  | x :: l => ⟨rfl, trivial, rels_mk l⟩

/-- what may stand behind a token -/
def Sep (zs : List Int) : Prop := zs = [] ∨ ∃ z t, zs = z :: t ∧ kindR z = 1
theorem count_mk (ks : List Int) (hk : ks.contains 1 = false) (rest : List Int) (hr : Sep rest) : ∀ (a : List Int), (∀ z ∈ a, ks.contains (kindR z) = true) → count ks (mk (a ++ rest)) = a.length
  | [], _ => by
    rcases hr with rfl | ⟨z, t, rfl, hz⟩
    · rfl
    · show count ks (mk (z :: t)) = 0
      rw [mk_cons, count, if_neg]
      unfold isIn
      simp only [hz, hk]; decide
  | z :: a, h => by
    rw [List.cons_append, mk_cons, count, if_pos (by exact h z List.mem_cons_self), count_mk ks hk rest hr a (fun x hx => h x (List.mem_cons_of_mem _ hx))]
    rfl

/-- what a token is written as: the code points stand as they should ahead of any blank -/
structure Good (t : Tok) (zs : List Int) : Prop where
  ok : okL zs
  pos : 1 ≤ zs.length
  skip : ∀ rest, Sep rest → skip false (mk (zs ++ rest)) = mk (zs ++ rest)
  told : ∀ rest, Sep rest → token (mk (zs ++ rest)) = .ok ⟨t.k, t.t, t.n, zero⟩ zs.length

/-! ### words -/
def small (b : UInt8) : Bool := decide (97 ≤ b.toNat ∧ b.toNat ≤ 122)
def great (b : UInt8) : Bool := decide (65 ≤ b.toNat ∧ b.toNat ≤ 90)
def inW (b : UInt8) : Bool := decide (48 ≤ b.toNat ∧ b.toNat ≤ 57) || small b || great b || decide (b.toNat = 95) || decide (b.toNat = 39)
def firstIs (s : List UInt8) (big : Bool) : Bool := match s with | [] => false | b :: _ => if big then great b else small b
/-- the reference's Name -/
def name (s : List UInt8) (big : Bool) : Bool := decide (s.length ≤ 24) && firstIs s big && s.all inW && !words.contains s && !prims.contains s
/-- the reference's May -/
def may (t : Tok) : Bool :=
  if t.k = 1 then name t.t false && decide (t.n = 0)
  else if t.k = 2 then name t.t true && decide (t.n = 0)
  else if t.k = 3 then decide (0 ≤ t.n ∧ t.n ≤ 1099511627776) && decide (t.t = [])
  else if t.k = 4 then whole t.t && decide (t.n = 0)
  else if t.k = 5 then (words.contains t.t || signs.contains t.t) && decide (t.n = 0)
  else if t.k = 6 then prims.contains t.t && decide (t.n = 0)
  else false
/-- a token as it is written -/
def one (t : Tok) : List UInt8 := if t.k = 3 then itoa t.n else if t.k = 4 then 34 :: (t.t.flatMap esc ++ [34]) else t.t

theorem kind_inW (b : UInt8) (h : inW b = true) : [2, 3, 4, 5].contains (kindR (b.toNat : Int)) = true ∧ b.toNat < 128 := by
  unfold inW small great at h
  simp only [Bool.or_eq_true, decide_eq_true_eq] at h
  have hk : kindR (b.toNat : Int) = 2 ∨ kindR (b.toNat : Int) = 3 ∨ kindR (b.toNat : Int) = 4 ∨ kindR (b.toNat : Int) = 5 := by
    unfold kindR
    repeat' split
    all_goals omega
  refine ⟨?_, by omega⟩
  rcases hk with e | e | e | e <;> rw [e] <;> decide
theorem kind_small (b : UInt8) (h : small b = true) : kindR (b.toNat : Int) = 3 := by
  unfold small at h
  simp only [decide_eq_true_eq] at h
  unfold kindR
  repeat' split
  all_goals omega
theorem kind_great (b : UInt8) (h : great b = true) : kindR (b.toNat : Int) = 4 := by
  unfold great at h
  simp only [decide_eq_true_eq] at h
  unfold kindR
  repeat' split
  all_goals omega
/-- what is skipped ahead of a word: nothing -/
theorem skip_no (z : Int) (a : List Int) (h1 : kindR z ≠ 1) (h2 : z ≠ 45) : skip false (mk (z :: a)) = mk (z :: a) := by
  rw [mk_cons, skip, if_neg h1, if_neg (fun h => h2 h.1)]
theorem word_told (b : UInt8) (s : List UInt8) (hf : small b = true ∨ great b = true) (ha : (b :: s).all inW = true) (rest : List Int) (hr : Sep rest) :
    token (mk (zsOf (b :: s) ++ rest)) =
      (if words.contains (b :: s) then .ok ⟨5, b :: s, 0, zero⟩ (b :: s).length else if prims.contains (b :: s) then .ok ⟨6, b :: s, 0, zero⟩ (b :: s).length
        else if 24 < (b :: s).length then .bad 3 zero else .ok ⟨if kindR (b.toNat : Int) = 4 then 2 else 1, b :: s, 0, zero⟩ (b :: s).length) := by
  have hk : kindR (b.toNat : Int) = 3 ∨ kindR (b.toNat : Int) = 4 := by
    rcases hf with h | h
    · exact .inl (kind_small b h)
    · exact .inr (kind_great b h)
  have hp : peek (mk (zsOf (b :: s) ++ rest)) 0 = (b.toNat : Int) := rfl
  have hall : ∀ x ∈ b :: s, inW x = true := by simpa using ha
  have hcnt : count [2, 3, 4, 5] (mk (zsOf (b :: s) ++ rest)) = (b :: s).length := by
    rw [count_mk [2, 3, 4, 5] (by decide) rest hr]
    · unfold zsOf; rw [List.length_map]
    · intro z hz
      obtain ⟨x, hx, rfl⟩ := List.mem_map.1 hz
      exact (kind_inW x (hall x hx)).1
  have hzl : (zsOf (b :: s)).length = (b :: s).length := by unfold zsOf; rw [List.length_map]
  have htk : textOf ((mk (zsOf (b :: s) ++ rest)).take (b :: s).length) = b :: s := by
    rw [← hzl, mk_take, text_mk]
    exact (enc_ascii _ (fun x hx => (kind_inW x (hall x hx)).2)).1
  have hh : headP (mk (zsOf (b :: s) ++ rest)) = zero := rfl
  obtain ⟨X, hX⟩ : ∃ X, b :: s = X := ⟨_, rfl⟩
  obtain ⟨L, hL⟩ : ∃ L, mk (zsOf (b :: s) ++ rest) = L := ⟨_, rfl⟩
  rw [hL] at hp hcnt htk hh ⊢
  rw [hX] at hcnt htk ⊢
  obtain ⟨N, hN⟩ : ∃ N, X.length = N := ⟨_, rfl⟩
  rw [hN] at hcnt htk ⊢
  unfold token
  simp only [hp]
  rw [if_pos hk]
  unfold word
  simp only [hcnt, htk, hp, hh, hN]
theorem good_word (t : Tok) (b : UInt8) (s : List UInt8) (hf : small b = true ∨ great b = true) (ha : (b :: s).all inW = true)
    (h : (if words.contains (b :: s) then Res.ok ⟨5, b :: s, 0, zero⟩ (b :: s).length else if prims.contains (b :: s) then .ok ⟨6, b :: s, 0, zero⟩ (b :: s).length
        else if 24 < (b :: s).length then .bad 3 zero else .ok ⟨if kindR (b.toNat : Int) = 4 then 2 else 1, b :: s, 0, zero⟩ (b :: s).length) = .ok ⟨t.k, t.t, t.n, zero⟩ (b :: s).length) : Good t (zsOf (b :: s)) := by
  have hall : ∀ x ∈ b :: s, inW x = true := by simpa using ha
  have hzl : (zsOf (b :: s)).length = (b :: s).length := by unfold zsOf; rw [List.length_map]
  refine ⟨(enc_ascii _ (fun x hx => (kind_inW x (hall x hx)).2)).2, by rw [hzl]; simp, fun rest _ => ?_, fun rest hr => ?_⟩
  · refine skip_no (b.toNat : Int) (zsOf s ++ rest) ?_ ?_
    · rcases hf with h | h
      · rw [kind_small b h]; decide
      · rw [kind_great b h]; decide
    · unfold small great at hf
      simp only [decide_eq_true_eq] at hf
      omega
  · rw [word_told b s hf ha rest hr, h, hzl]
theorem good_name (t : Tok) (big : Bool) (hk : t.k = if big then 2 else 1) (h : name t.t big = true) (hn : t.n = 0) : Good t (zsOf t.t) := by
  unfold name at h
  simp only [Bool.and_eq_true, decide_eq_true_eq, Bool.not_eq_true'] at h
  obtain ⟨⟨⟨⟨h24, h1⟩, h2⟩, h3⟩, h4⟩ := h
  cases ht : t.t with
  | nil => rw [ht] at h1; cases h1
  | cons b s =>
    rw [ht] at h24 h1 h2 h3 h4
    refine good_word t b s ?_ h2 ?_
    · cases big
      · exact .inl h1
      · exact .inr h1
    · rw [if_neg (by rw [h3]; decide), if_neg (by rw [h4]; decide), if_neg (by omega), ht, hk, hn]
      cases big with
      | false => rw [kind_small b h1]; rfl
      | true => rw [kind_great b h1]; rfl
theorem words_fact : ∀ w ∈ words, (firstIs w false && w.all inW) = true := by decide
theorem prims_fact : ∀ w ∈ prims, (firstIs w false && w.all inW && !words.contains w) = true := by decide
theorem good_let (t : Tok) (hk : t.k = 5) (h : words.contains t.t = true) (hn : t.n = 0) : Good t (zsOf t.t) := by
  have hf := words_fact t.t (by simpa using h)
  simp only [Bool.and_eq_true] at hf
  cases ht : t.t with
  | nil => rw [ht] at hf; exact absurd hf.1 (by decide)
  | cons b s =>
    rw [ht] at hf h
    refine good_word t b s (.inl hf.1) hf.2 ?_
    rw [if_pos h, ht, hk, hn]
theorem good_prim (t : Tok) (hk : t.k = 6) (h : prims.contains t.t = true) (hn : t.n = 0) : Good t (zsOf t.t) := by
  have hf := prims_fact t.t (by simpa using h)
  simp only [Bool.and_eq_true, Bool.not_eq_true'] at hf
  cases ht : t.t with
  | nil => rw [ht] at hf; exact absurd hf.1.1 (by decide)
  | cons b s =>
    rw [ht] at hf h
    refine good_word t b s (.inl hf.1.1) hf.1.2 ?_
    rw [if_neg (by rw [hf.2]; decide), if_pos h, ht, hk, hn]

/-! ### numbers -/
theorem decDigits_fact : ∀ (n : Nat), (∀ b ∈ decDigits n, 48 ≤ b.toNat ∧ b.toNat ≤ 57) ∧ (decDigits n).foldl (fun a b => 10 * a + (b.toNat - 48)) 0 = n ∧ 1 ≤ (decDigits n).length ∧ (∀ b s, decDigits n = b :: s → s ≠ [] → b.toNat ≠ 48) := by
  intro n
  induction n using Nat.strongRecOn with
  | _ n ih =>
    by_cases h : n < 10
    · rw [decDigits, dif_pos h]
      have h8 : (UInt8.ofNat (48 + n)).toNat = 48 + n := by rw [UInt8.toNat_ofNat']; omega
      refine ⟨?_, ?_, by simp, ?_⟩
      · intro b hb
        have : b = UInt8.ofNat (48 + n) := by simpa using hb
        rw [this, h8]; omega
      · simp only [List.foldl_cons, List.foldl_nil, h8]; omega
      · intro b s hs hne
        injection hs with _ h2
        exact absurd h2.symm hne
    · rw [decDigits, dif_neg h]
      obtain ⟨h1, h2, h3, h4⟩ := ih (n / 10) (by omega)
      have h8 : (UInt8.ofNat (48 + n % 10)).toNat = 48 + n % 10 := by rw [UInt8.toNat_ofNat']; omega
      refine ⟨?_, ?_, by simp, ?_⟩
      · intro b hb
        rcases List.mem_append.1 hb with hb | hb
        · exact h1 b hb
        · have : b = UInt8.ofNat (48 + n % 10) := by simpa using hb
          rw [this, h8]; omega
      · rw [List.foldl_append, h2]
        simp only [List.foldl_cons, List.foldl_nil, h8]; omega
      · intro b s hs _
        cases hd : decDigits (n / 10) with
        | nil => rw [hd] at h3; simp at h3
        | cons c u =>
          rw [hd] at hs
          injection hs with e1 e2
          subst e1
          by_cases hu : u = []
          · subst hu
            by_cases h10 : n / 10 < 10
            · rw [decDigits, dif_pos h10] at hd
              injection hd with e3 _
              rw [← e3, UInt8.toNat_ofNat']
              omega
            · rw [decDigits, dif_neg h10] at hd
              have := congrArg List.length hd
              have h5 : 1 ≤ (decDigits (n / 10 / 10)).length := by
                have := decDigits_length (n / 10 / 10)
                have := nDigits_pos (n / 10 / 10)
                omega
              rw [List.length_append] at this
              simp at this
              rw [this] at h5
              simp at h5
          · exact h4 c u hd hu
theorem num_mk (a : List UInt8) (h : ∀ b ∈ a, 48 ≤ b.toNat ∧ b.toNat ≤ 57) : ∀ acc, (zsOf a).foldl (fun a x => 10 * a + (x - 48).toNat) acc = a.foldl (fun a b => 10 * a + (b.toNat - 48)) acc := by
  induction a with
  | nil => intro acc; rfl
  | cons b a ih =>
    intro acc
    have hb := h b List.mem_cons_self
    have e : ((b.toNat : Int) - 48).toNat = b.toNat - 48 := by omega
    show (zsOf a).foldl _ (10 * acc + ((b.toNat : Int) - 48).toNat) = _
    rw [e, ih (fun x hx => h x (List.mem_cons_of_mem _ hx))]
    rfl
theorem kind_dig (b : UInt8) (h : 48 ≤ b.toNat ∧ b.toNat ≤ 57) : kindR (b.toNat : Int) = 2 := by
  unfold kindR
  repeat' split
  all_goals omega
theorem good_num (t : Tok) (hk : t.k = 3) (ht : t.t = []) (h0 : 0 ≤ t.n) (h1 : t.n ≤ 1099511627776) : Good t (zsOf (itoa t.n)) ∧ encL (zsOf (itoa t.n)) = itoa t.n := by
  obtain ⟨n, hn⟩ : ∃ n : Nat, t.n = n := ⟨t.n.toNat, by omega⟩
  have hi : itoa t.n = decDigits n := by unfold itoa; rw [if_neg (by omega), hn]; rfl
  rw [hi]
  obtain ⟨f1, f2, f3, f4⟩ := decDigits_fact n
  obtain ⟨D, hD⟩ : ∃ D, decDigits n = D := ⟨_, rfl⟩
  rw [hD] at f1 f2 f3 f4 ⊢
  have has := enc_ascii D (fun b hb => by have := f1 b hb; omega)
  have hzl : (zsOf D).length = D.length := by unfold zsOf; rw [List.length_map]
  refine ⟨?_, has.1⟩
  cases D with
  | nil => simp at f3
  | cons b s =>
    have hb := f1 b List.mem_cons_self
    refine ⟨has.2, by rw [hzl]; exact f3, fun rest _ => skip_no (b.toNat : Int) (zsOf s ++ rest) (by rw [kind_dig b hb]; decide) (by omega), fun rest hr => ?_⟩
    have hp : peek (mk (zsOf (b :: s) ++ rest)) 0 = (b.toNat : Int) := rfl
    have hcnt : count [2] (mk (zsOf (b :: s) ++ rest)) = (b :: s).length := by
      rw [count_mk [2] (by decide) rest hr]
      · exact hzl
      · intro z hz
        obtain ⟨x, hx, rfl⟩ := List.mem_map.1 hz
        rw [kind_dig x (f1 x hx)]; decide
    have htk : numOf ((mk (zsOf (b :: s) ++ rest)).take (b :: s).length) = n := by
      rw [← hzl, mk_take, num_rs]
      have : (mk (zsOf (b :: s))).map (·.r) = zsOf (b :: s) := by unfold mk; rw [List.map_map]; exact List.map_id _
      rw [this, num_mk _ f1, f2]
    have hno : ¬ (peek (mk (zsOf (b :: s) ++ rest)) 0 = 48 ∧ kindR (peek (mk (zsOf (b :: s) ++ rest)) 1) = 2) := by
      rintro ⟨a1, a2⟩
      rw [hp] at a1
      cases s with
      | cons c s => exact f4 b (c :: s) rfl (by simp) (by omega)
      | nil =>
        rcases hr with rfl | ⟨z, u, rfl, hz⟩
        · have e : peek (mk (zsOf [b] ++ [])) 1 = -1 := rfl
          rw [e] at a2
          exact absurd a2 (by decide)
        · have e : peek (mk (zsOf [b] ++ z :: u)) 1 = z := rfl
          rw [e, hz] at a2
          exact absurd a2 (by decide)
    have hh : headP (mk (zsOf (b :: s) ++ rest)) = zero := rfl
    obtain ⟨L, hL⟩ : ∃ L, mk (zsOf (b :: s) ++ rest) = L := ⟨_, rfl⟩
    rw [hL] at hp hcnt htk hh hno ⊢
    rw [hzl]
    obtain ⟨N, hN⟩ : ∃ N, (b :: s).length = N := ⟨_, rfl⟩
    rw [hN] at hcnt htk ⊢
    have hkk := kind_dig b hb
    rw [token_as L _ rfl, hp, hkk, if_neg (by decide), if_pos rfl]
    unfold number
    rw [if_neg hno]
    simp only [hcnt, htk, hh]
    rw [if_neg (by omega), hk, ht, hn]

/-! ### strings -/
def escZ (z : Int) : List Int := if z = 92 then [92, 92] else if z = 34 then [92, 34] else if z = 10 then [92, 110] else if z = 9 then [92, 116] else [z]
theorem u8_big (n : Nat) (h1 : 128 ≤ n) (h2 : n < 256) : esc n.toUInt8 = [n.toUInt8] := by
  have h := u8_nat n h2
  unfold esc
  have e : ∀ m : UInt8, m.toNat < 128 → ¬ n.toUInt8 = m := by
    intro m hm he
    rw [he] at h
    omega
  rw [if_neg (e 92 (by decide)), if_neg (e 34 (by decide)), if_neg (e 10 (by decide)), if_neg (e 9 (by decide))]
theorem esc_rune (z : Int) (h : validRune z = true) : (encodeRune z).flatMap esc = encL (escZ z) := by
  have hv := (valid_iff z).1 h
  by_cases h1 : z ≤ 127
  · rw [enc_one z (by omega) h1]
    simp only [List.flatMap_cons, List.flatMap_nil, List.append_nil]
    have hn := u8_nat z.toNat (by omega)
    have e : ∀ m : UInt8, ((z.toNat.toUInt8 = m) ↔ z = m.toNat) := by
      intro m
      constructor
      · intro he; rw [he] at hn; omega
      · intro he; apply UInt8.toNat_inj.1; omega
    unfold esc escZ
    simp only [e]
    have a1 : ((92 : UInt8).toNat : Int) = 92 := rfl
    have a2 : ((34 : UInt8).toNat : Int) = 34 := rfl
    have a3 : ((10 : UInt8).toNat : Int) = 10 := rfl
    have a4 : ((9 : UInt8).toNat : Int) = 9 := rfl
    rw [a1, a2, a3, a4]
    by_cases b1 : z = 92
    · rw [if_pos b1, if_pos b1]; decide
    · rw [if_neg b1, if_neg b1]
      by_cases b2 : z = 34
      · rw [if_pos b2, if_pos b2]; decide
      · rw [if_neg b2, if_neg b2]
        by_cases b3 : z = 10
        · rw [if_pos b3, if_pos b3]; decide
        · rw [if_neg b3, if_neg b3]
          by_cases b4 : z = 9
          · rw [if_pos b4, if_pos b4]; decide
          · rw [if_neg b4, if_neg b4]
            show _ = encodeRune z ++ []
            rw [enc_one z (by omega) h1, List.append_nil]
  · have hz : escZ z = [z] := by
      unfold escZ
      rw [if_neg (by omega), if_neg (by omega), if_neg (by omega), if_neg (by omega)]
    rw [hz]
    show _ = encodeRune z ++ []
    rw [List.append_nil]
    by_cases h2 : z ≤ 2047
    · have e : encodeRune z = [(192 + z / 64).toNat.toUInt8, (128 + z % 64).toNat.toUInt8] := by rw [encodeRune, encodeRuneZ_two (by omega) h2]; rfl
      rw [e]
      simp only [List.flatMap_cons, List.flatMap_nil]
      rw [u8_big _ (by omega) (by omega), u8_big _ (by omega) (by omega)]
      rfl
    by_cases h3 : z ≤ 65535
    · have e : encodeRune z = [(224 + z / 4096).toNat.toUInt8, (128 + z / 64 % 64).toNat.toUInt8, (128 + z % 64).toNat.toUInt8] := by rw [encodeRune, encodeRuneZ_three (by omega)]; rfl
      rw [e]
      simp only [List.flatMap_cons, List.flatMap_nil]
      rw [u8_big _ (by omega) (by omega), u8_big _ (by omega) (by omega), u8_big _ (by omega) (by omega)]
      rfl
    · have e : encodeRune z = [(240 + z / 262144).toNat.toUInt8, (128 + z / 4096 % 64).toNat.toUInt8, (128 + z / 64 % 64).toNat.toUInt8, (128 + z % 64).toNat.toUInt8] := by rw [encodeRune, encodeRuneZ_four (by omega) (by omega)]; rfl
      rw [e]
      simp only [List.flatMap_cons, List.flatMap_nil]
      rw [u8_big _ (by omega) (by omega), u8_big _ (by omega) (by omega), u8_big _ (by omega) (by omega), u8_big _ (by omega) (by omega)]
      rfl
theorem esc_enc : ∀ (zs : List Int), okL zs → (encL zs).flatMap esc = encL (zs.flatMap escZ)
  | [], _ => rfl
  | z :: zs, h => by
    rw [encL_cons, List.flatMap_append, List.flatMap_cons, encL_app, esc_rune z (h z List.mem_cons_self), esc_enc zs (okL_tail h)]
theorem escZ_ok (zs : List Int) (h : okL zs) : okL (zs.flatMap escZ) := by
  intro z hz
  obtain ⟨x, hx, hz⟩ := List.mem_flatMap.1 hz
  unfold escZ at hz
  have hv := h x hx
  repeat' split at hz
  all_goals
    simp only [List.mem_cons, List.not_mem_nil, or_false] at hz
    first
      | (subst hz; exact hv)
      | (rcases hz with rfl | rfl <;> exact valid_small (by omega))
theorem quote_put (P : Pos) (rest : List Int) : ∀ (zs : List Int) (acc : List UInt8) (n : Nat),
    quote P (mk (zs.flatMap escZ ++ 34 :: rest)) acc n = .ok ⟨4, acc ++ encL zs, 0, P⟩ (n + (zs.flatMap escZ).length + 1)
  | [], acc, n => by
    show quote P (mk (34 :: rest)) acc n = _
    rw [mk_cons, encL_nil, List.append_nil]
    cases mk rest <;> simp [quote]
  | z :: zs, acc, n => by
    have ih := quote_put P rest zs (acc ++ encodeRune z)
    rw [List.append_assoc, ← encL_cons] at ih
    rw [List.flatMap_cons, List.append_assoc, List.length_append]
    have two : ∀ c, escZ z = [92, c] → what c = z → quote P (mk (escZ z ++ (zs.flatMap escZ ++ 34 :: rest))) acc n = .ok ⟨4, acc ++ encL (z :: zs), 0, P⟩ (n + ((escZ z).length + (zs.flatMap escZ).length) + 1) := by
      intro c h1 h2
      rw [h1]
      show quote P (⟨92, zero⟩ :: ⟨c, zero⟩ :: mk (zs.flatMap escZ ++ 34 :: rest)) acc n = _
      have hw : ¬ what c < 0 := by
        have : c = 92 ∨ c = 34 ∨ c = 110 ∨ c = 116 := by
          unfold escZ at h1
          repeat' split at h1
          all_goals (simp at h1; try omega)
        rcases this with rfl | rfl | rfl | rfl <;> decide
      rw [pq92 P ⟨92, zero⟩ ⟨c, zero⟩ _ acc n rfl hw]
      show quote P _ (acc ++ encodeRune (what c)) (n + 2) = _
      rw [h2, ih]
      simp only [List.length_cons, List.length_nil]
      congr 1
      omega
    by_cases h1 : z = 92
    · exact two 92 (by unfold escZ; rw [if_pos h1]) (by subst h1; rfl)
    by_cases h2 : z = 34
    · exact two 34 (by unfold escZ; rw [if_neg h1, if_pos h2]) (by subst h2; rfl)
    by_cases h3 : z = 10
    · exact two 110 (by unfold escZ; rw [if_neg h1, if_neg h2, if_pos h3]) (by subst h3; rfl)
    by_cases h4 : z = 9
    · exact two 116 (by unfold escZ; rw [if_neg h1, if_neg h2, if_neg h3, if_pos h4]) (by subst h4; rfl)
    · have hz : escZ z = [z] := by unfold escZ; rw [if_neg h1, if_neg h2, if_neg h3, if_neg h4]
      rw [hz]
      show quote P (⟨z, zero⟩ :: mk (zs.flatMap escZ ++ 34 :: rest)) acc n = _
      have e : quote P (⟨z, zero⟩ :: mk (zs.flatMap escZ ++ 34 :: rest)) acc n = quote P (mk (zs.flatMap escZ ++ 34 :: rest)) (acc ++ encodeRune z) (n + 1) := by
        cases mk (zs.flatMap escZ ++ 34 :: rest) <;> simp [quote, h1, h2, h3]
      rw [e, ih]
      simp only [List.length_cons, List.length_nil]
      congr 1
      omega
theorem good_str (t : Tok) (zs : List Int) (hk : t.k = 4) (hn : t.n = 0) (ho : okL zs) (ht : t.t = encL zs) : Good t (34 :: (zs.flatMap escZ ++ [34])) := by
  refine ⟨okL_cons (valid_small (by omega)) (okL_app (escZ_ok zs ho) (okL_cons (valid_small (by omega)) okL_nil)), by simp, fun rest _ => ?_, fun rest _ => ?_⟩
  · exact skip_no 34 _ (by decide) (by decide)
  · have e : mk ((34 :: (zs.flatMap escZ ++ [34])) ++ rest) = ⟨34, zero⟩ :: mk (zs.flatMap escZ ++ 34 :: rest) := by
      rw [List.cons_append, List.append_assoc]; rfl
    rw [e]
    have hq : quoted (⟨34, zero⟩ :: mk (zs.flatMap escZ ++ 34 :: rest)) = .ok ⟨4, [] ++ encL zs, 0, zero⟩ (1 + (zs.flatMap escZ).length + 1) := quote_put zero rest zs [] 1
    have hp : peek (⟨34, zero⟩ :: mk (zs.flatMap escZ ++ 34 :: rest)) 0 = 34 := rfl
    rw [token_as _ _ rfl, hp, if_neg (by decide), if_neg (by decide), if_pos rfl, hq, hk, hn, ht, List.nil_append]
    simp only [List.length_cons, List.length_append, List.length_nil]
    congr 1
    omega
theorem one_str (t : Tok) (zs : List Int) (hk : t.k = 4) (ho : okL zs) (ht : t.t = encL zs) : one t = encL (34 :: (zs.flatMap escZ ++ [34])) := by
  unfold one
  rw [if_neg (by omega), if_pos hk, ht, esc_enc zs ho, encL_cons, encL_app]
  rfl

/-! ### signs -/
def headOk (s : List UInt8) : Bool := match s with
  | [] => false
  | b :: u => decide (kindR (b.toNat : Int) ≠ 1 ∧ kindR (b.toNat : Int) ≠ 2 ∧ kindR (b.toNat : Int) ≠ 3 ∧ kindR (b.toNat : Int) ≠ 4 ∧ b.toNat ≠ 34) && (decide (b.toNat ≠ 45) || match u with | [] => true | c :: _ => decide (c.toNat ≠ 45))
theorem signs_ok : ∀ s ∈ signs, ((s.all fun b => decide (b.toNat < 128 ∧ kindR (b.toNat : Int) ≠ 1)) && headOk s) = true := by decide
def SecP : List UInt8 → Prop
  | [] => True
  | c :: _ => c.toNat ≠ 45
def HeadP : List UInt8 → Prop
  | [] => False
  | b :: u => kindR (b.toNat : Int) ≠ 1 ∧ kindR (b.toNat : Int) ≠ 2 ∧ kindR (b.toNat : Int) ≠ 3 ∧ kindR (b.toNat : Int) ≠ 4 ∧ b.toNat ≠ 34 ∧ (b.toNat = 45 → SecP u)
theorem signs_fact (s : List UInt8) (hs : s ∈ signs) : (∀ b ∈ s, b.toNat < 128 ∧ kindR (b.toNat : Int) ≠ 1) ∧ HeadP s := by
  have h := signs_ok s hs
  rw [Bool.and_eq_true, List.all_eq_true] at h
  refine ⟨fun b hb => of_decide_eq_true (h.1 b hb), ?_⟩
  have h2 := h.2
  cases s with
  | nil => exact absurd h2 (by decide)
  | cons b u =>
    unfold headOk at h2
    rw [Bool.and_eq_true, Bool.or_eq_true, decide_eq_true_eq, decide_eq_true_eq] at h2
    obtain ⟨⟨a1, a2, a3, a4, a5⟩, a6⟩ := h2
    refine ⟨a1, a2, a3, a4, a5, fun h45 => ?_⟩
    rcases a6 with a6 | a6
    · exact absurd h45 a6
    · cases u with
      | nil => trivial
      | cons c u =>
        have a7 : decide (c.toNat ≠ 45) = true := a6
        have a8 : c.toNat ≠ 45 := of_decide_eq_true a7
        exact a8
theorem best_is (l : List Pt) (b : List UInt8) : ∀ (ss : List (List UInt8)) (b0 : List UInt8), (∀ s ∈ b :: b0 :: ss, s.length ≤ l.length → textOf (l.take s.length) = s → s.length ≤ b.length ∧ (s.length = b.length → s = b)) → b0.length ≤ b.length →
    (b0 = b ∨ b0.length < b.length ∧ b ∈ ss) → b.length ≤ l.length → textOf (l.take b.length) = b → ss.foldl (better l) b0 = b
  | [], b0, _, _, h, _, _ => by
    rcases h with rfl | ⟨_, h⟩
    · rfl
    · simp at h
  | s :: ss, b0, hall, hle, h, hbl, hbt => by
    rw [List.foldl_cons]
    have hs := hall s (by simp)
    by_cases hc : b0.length < s.length ∧ s.length ≤ l.length ∧ textOf (l.take s.length) = s
    · have e : better l b0 s = s := by unfold better; rw [if_pos hc]
      obtain ⟨h1, h2⟩ := hs hc.2.1 hc.2.2
      rw [e]
      refine best_is l b ss s (fun x hx => hall x ?_) h1 ?_ hbl hbt
      · simp only [List.mem_cons] at hx ⊢; rcases hx with h | h | h <;> simp [h]
      · by_cases hsl : s.length = b.length
        · exact .inl (h2 hsl)
        · refine .inr ⟨by omega, ?_⟩
          rcases h with rfl | ⟨_, hm⟩
          · omega
          · rcases List.mem_cons.1 hm with h | h
            · rw [h] at hsl; exact absurd rfl hsl
            · exact h
    · have e : better l b0 s = b0 := by unfold better; rw [if_neg hc]
      rw [e]
      refine best_is l b ss b0 (fun x hx => hall x ?_) hle ?_ hbl hbt
      · simp only [List.mem_cons] at hx ⊢; rcases hx with h | h | h <;> simp [h]
      · rcases h with h | ⟨h1, hm⟩
        · exact .inl h
        · rcases List.mem_cons.1 hm with h | h
          · rw [← h] at hc; exact absurd ⟨h1, hbl, hbt⟩ hc
          · exact .inr ⟨h1, h⟩
theorem sign_best (s : List UInt8) (hs : s ∈ signs) (rest : List Int) (hr : Sep rest) : bestOf (mk (zsOf s ++ rest)) signs = s := by
  obtain ⟨hb, hm⟩ := signs_fact s hs
  have has := enc_ascii s (fun b h => (hb b h).1)
  have hzl : (zsOf s).length = s.length := by unfold zsOf; rw [List.length_map]
  have hlen : s.length ≤ (mk (zsOf s ++ rest)).length := by rw [mk_len, List.length_append]; omega
  have htx : textOf ((mk (zsOf s ++ rest)).take s.length) = s := by rw [← hzl, mk_take, text_mk, has.1]
  have hpos : 0 < s.length := by
    cases s with
    | nil => exact hm.elim
    | cons => simp
  refine best_is _ s signs [] ?_ (Nat.zero_le _) (.inr ⟨hpos, hs⟩) hlen htx
  intro x hx hxl hxt
  by_cases hle : x.length ≤ s.length
  · refine ⟨hle, fun he => ?_⟩
    rw [he, htx] at hxt
    exact hxt.symm
  · exfalso
    have hxs : x ∈ signs := by
      simp only [List.mem_cons] at hx
      rcases hx with h | h | h
      · rw [h] at hle; omega
      · rw [h] at hle; simp at hle
      · exact h
    obtain ⟨hxb, _⟩ := signs_fact x hxs
    have hxas := enc_ascii x (fun b h => (hxb b h).1)
    rcases hr with rfl | ⟨z, u, rfl, hz⟩
    · rw [mk_len, List.length_append, hzl] at hxl
      simp at hxl
      omega
    · obtain ⟨k, hk⟩ : ∃ k, x.length = s.length + (k + 1) := ⟨x.length - s.length - 1, by omega⟩
      have e : (mk (zsOf s ++ z :: u)).take x.length = mk (zsOf s ++ z :: u.take k) := by
        rw [hk, mk_app, List.take_append, mk_len, hzl]
        rw [List.take_of_length_le (by rw [mk_len, hzl]; omega)]
        have : s.length + (k + 1) - s.length = k + 1 := by omega
        rw [this, mk_app, mk_cons, mk_cons, List.take_succ_cons]
        unfold mk
        rw [List.map_take]
      rw [e, text_mk, encL_app, encL_cons, has.1] at hxt
      have hz2 : z = 32 ∨ z = 9 ∨ z = 10 ∨ z = 13 := by
        unfold kindR at hz
        by_cases h0 : z = 32 ∨ z = 9 ∨ z = 10 ∨ z = 13
        · exact h0
        · rw [if_neg h0] at hz
          repeat' split at hz
          all_goals omega
      have hz1 : encodeRune z = [z.toNat.toUInt8] := enc_one z (by omega) (by omega)
      have hmem : z.toNat.toUInt8 ∈ x := by
        rw [← hxt, hz1]
        simp
      have h3 := (hxb _ hmem).2
      rw [u8_nat z.toNat (by omega)] at h3
      have : ((z.toNat : Nat) : Int) = z := by omega
      rw [this] at h3
      exact h3 hz
theorem good_sign (t : Tok) (hk : t.k = 5) (h : signs.contains t.t = true) (hn : t.n = 0) : Good t (zsOf t.t) := by
  have hs : t.t ∈ signs := by simpa using h
  obtain ⟨hb, hm⟩ := signs_fact t.t hs
  have has := enc_ascii t.t (fun b h => (hb b h).1)
  have hzl : (zsOf t.t).length = t.t.length := by unfold zsOf; rw [List.length_map]
  have hbest := fun rest hr => sign_best t.t hs rest hr
  obtain ⟨S, hS⟩ : ∃ S, t.t = S := ⟨_, rfl⟩
  rw [hS] at hs hb hm has hzl hbest ⊢
  cases S with
  | nil => exact hm.elim
  | cons b u =>
    obtain ⟨m1, m2, m3, m4, m5, m6⟩ := hm
    refine ⟨has.2, by rw [hzl]; simp, fun rest hr => ?_, fun rest hr => ?_⟩
    · show skip false (⟨(b.toNat : Int), zero⟩ :: mk (zsOf u ++ rest)) = _
      rw [skip, if_neg m1, if_neg]
      · rfl
      · rintro ⟨a1, a2⟩
        rw [peek_mk] at a2
        have a1' : (b.toNat : Int) = 45 := a1
        have h45 := m6 (by omega)
        cases u with
        | nil =>
          rcases hr with rfl | ⟨z, v, rfl, hz⟩
          · exact absurd a2 (by decide)
          · have : z = 45 := a2
            rw [this] at hz
            exact absurd hz (by decide)
        | cons c u =>
          have : (c.toNat : Int) = 45 := a2
          exact h45 (by omega)
    · have hp : peek (mk (zsOf (b :: u) ++ rest)) 0 = (b.toNat : Int) := rfl
      have hB := hbest rest hr
      have hh : headP (mk (zsOf (b :: u) ++ rest)) = zero := rfl
      obtain ⟨L, hL⟩ : ∃ L, mk (zsOf (b :: u) ++ rest) = L := ⟨_, rfl⟩
      rw [hL] at hp hB hh ⊢
      have hsg : sign L = .ok ⟨5, b :: u, 0, zero⟩ (b :: u).length := by rw [sign_as L _ hB, if_neg (by simp), hh]
      rw [token_as L _ hsg, hp, if_neg (fun h => h.elim m3 m4), if_neg m2, if_neg (fun h => m5 (by omega)), hk, hn, hS, hzl]
theorem one_text (t : Tok) (h3 : t.k ≠ 3) (h4 : t.k ≠ 4) : one t = t.t := by unfold one; rw [if_neg h3, if_neg h4]

/-- A token that may be is written as it is told. -/
theorem good_may (t : Tok) (h : may t = true) : ∃ zs, one t = encL zs ∧ Good t zs := by
  unfold may at h
  by_cases h1 : t.k = 1
  · rw [if_pos h1] at h
    simp only [Bool.and_eq_true, decide_eq_true_eq] at h
    have hg := good_name t false h1 h.1 h.2
    refine ⟨_, ?_, hg⟩
    rw [one_text t (by omega) (by omega)]
    have h2 := h.1
    unfold name at h2
    simp only [Bool.and_eq_true, decide_eq_true_eq] at h2
    exact (enc_ascii _ (fun b hb => (kind_inW b (by have := h2.1.1.2; simp only [List.all_eq_true] at this; exact this b hb)).2)).1.symm
  rw [if_neg h1] at h
  by_cases h2 : t.k = 2
  · rw [if_pos h2] at h
    simp only [Bool.and_eq_true, decide_eq_true_eq] at h
    have hg := good_name t true h2 h.1 h.2
    refine ⟨_, ?_, hg⟩
    rw [one_text t (by omega) (by omega)]
    have h2 := h.1
    unfold name at h2
    simp only [Bool.and_eq_true, decide_eq_true_eq] at h2
    exact (enc_ascii _ (fun b hb => (kind_inW b (by have := h2.1.1.2; simp only [List.all_eq_true] at this; exact this b hb)).2)).1.symm
  rw [if_neg h2] at h
  by_cases h3 : t.k = 3
  · rw [if_pos h3] at h
    simp only [Bool.and_eq_true, decide_eq_true_eq] at h
    obtain ⟨hg, he⟩ := good_num t h3 h.2 h.1.1 h.1.2
    refine ⟨_, ?_, hg⟩
    rw [he]
    unfold one
    rw [if_pos h3]
  rw [if_neg h3] at h
  by_cases h4 : t.k = 4
  · rw [if_pos h4] at h
    simp only [Bool.and_eq_true, decide_eq_true_eq] at h
    obtain ⟨zs, hz, hs⟩ := whole_dec h.1
    exact ⟨_, one_str t zs h4 hz hs, good_str t zs h4 h.2 hz hs⟩
  rw [if_neg h4] at h
  by_cases h5 : t.k = 5
  · rw [if_pos h5] at h
    simp only [Bool.and_eq_true, Bool.or_eq_true, decide_eq_true_eq] at h
    rcases h.1 with hw | hw
    · refine ⟨_, ?_, good_let t h5 hw h.2⟩
      rw [one_text t (by omega) (by omega)]
      have hf := words_fact t.t (by simpa using hw)
      simp only [Bool.and_eq_true, List.all_eq_true] at hf
      exact (enc_ascii _ (fun b hb => (kind_inW b (hf.2 b hb)).2)).1.symm
    · refine ⟨_, ?_, good_sign t h5 hw h.2⟩
      rw [one_text t (by omega) (by omega)]
      exact (enc_ascii _ (fun b hb => ((signs_fact t.t (by simpa using hw)).1 b hb).1)).1.symm
  rw [if_neg h5] at h
  by_cases h6 : t.k = 6
  · rw [if_pos h6] at h
    simp only [Bool.and_eq_true, decide_eq_true_eq] at h
    refine ⟨_, ?_, good_prim t h6 h.1 h.2⟩
    rw [one_text t (by omega) (by omega)]
    have hf := prims_fact t.t (by simpa using h.1)
    simp only [Bool.and_eq_true, List.all_eq_true] at hf
    exact (enc_ascii _ (fun b hb => (kind_inW b (hf.1.2 b hb)).2)).1.symm
  · rw [if_neg h6] at h; cases h
end Go.Proofs.YtaojgcioljcpmaaGreatDoor.T
