/- Plain law: from each token's place on a text tells that token first, and the others behind it. No program is in sight. -/
import Derived.Test.YtaojgcioljcpmaaGreatDoorLexQ
namespace Go.Proofs.YtaojgcioljcpmaaGreatDoor
open Go

/-- a place p of a text, and p' of its tail that begins at q -/
def Rel (q p p' : U.Pos) : Prop := p'.a + q.a = p.a ∧ p'.l + q.l - 1 = p.l ∧ 1 ≤ p'.l ∧ (p'.l = 1 → p'.c + q.c - 1 = p.c) ∧ (1 < p'.l → p'.c = p.c)
theorem Rel.start (q : U.Pos) : Rel q q U.start := by unfold Rel U.start; refine ⟨?_, ?_, ?_, ?_, ?_⟩ <;> simp <;> omega
theorem Rel.next {q p p' : U.Pos} (h : Rel q p p') (r z : Int) : Rel q (U.next p r z) (U.next p' r z) := by
  unfold Rel at *
  unfold U.next
  obtain ⟨h1, h2, h3, h4, h5⟩ := h
  by_cases hr : r = 10
  · simp only [if_pos hr]
    refine ⟨by omega, by omega, by omega, fun h => by omega, fun _ => trivial⟩
  · simp only [if_neg hr]
    refine ⟨by omega, by omega, by omega, fun h => by have := h4 h; omega, fun h => by have := h5 h; omega⟩

/-- code points that are one, but for their places -/
def Rels (R : U.Pos → U.Pos → Prop) : List U.Pt → List U.Pt → Prop
  | [], [] => True
  | x :: l, y :: m => x.r = y.r ∧ R x.p y.p ∧ Rels R l m
  | _, _ => False
theorem Rels.len {R : U.Pos → U.Pos → Prop} : ∀ {l m : List U.Pt}, Rels R l m → l.length = m.length
  | [], [], _ => rfl
  | _ :: _, _ :: _, h => by simp [Rels.len h.2.2]
  | [], _ :: _, h => h.elim
  | _ :: _, [], h => h.elim
theorem Rels.drop {R : U.Pos → U.Pos → Prop} : ∀ {l m : List U.Pt}, Rels R l m → ∀ n, Rels R (l.drop n) (m.drop n)
  | _, _, h, 0 => h
  | [], [], _, n + 1 => by simp [Rels]
  | _ :: _, _ :: _, h, n + 1 => by simpa using Rels.drop h.2.2 n
  | [], _ :: _, h, _ + 1 => h.elim
  | _ :: _, [], h, _ + 1 => h.elim
theorem Rels.take {R : U.Pos → U.Pos → Prop} : ∀ {l m : List U.Pt}, Rels R l m → ∀ n, Rels R (l.take n) (m.take n)
  | _, _, _, 0 => by simp [Rels]
  | [], [], _, n + 1 => by simp [Rels]
  | _ :: _, _ :: _, h, n + 1 => by simpa using ⟨h.1, h.2.1, Rels.take h.2.2 n⟩
  | [], _ :: _, h, _ + 1 => h.elim
  | _ :: _, [], h, _ + 1 => h.elim
theorem Rels.rs {R : U.Pos → U.Pos → Prop} : ∀ {l m : List U.Pt}, Rels R l m → l.map (·.r) = m.map (·.r)
  | [], [], _ => rfl
  | _ :: _, _ :: _, h => by simp [Rels.rs h.2.2, h.1]
  | [], _ :: _, h => h.elim
  | _ :: _, [], h => h.elim
theorem text_rs (l : List U.Pt) : T.textOf l = (l.map (·.r)).flatMap Lib.encodeRune := by
  unfold T.textOf
  induction l with
  | nil => rfl
  | cons x l ih => simp [ih]
theorem Rels.text {R : U.Pos → U.Pos → Prop} {l m : List U.Pt} (h : Rels R l m) : T.textOf l = T.textOf m := by rw [text_rs, text_rs, h.rs]
theorem Rels.count {R : U.Pos → U.Pos → Prop} (ks : List Int) : ∀ {l m : List U.Pt}, Rels R l m → T.count ks l = T.count ks m
  | [], [], _ => rfl
  | x :: _, y :: _, h => by
    have e : T.isIn ks x = T.isIn ks y := by unfold T.isIn; rw [h.1]
    unfold T.count
    rw [e, Rels.count ks h.2.2]
  | [], _ :: _, h => h.elim
  | _ :: _, [], h => h.elim
theorem Rels.peek {R : U.Pos → U.Pos → Prop} {l m : List U.Pt} (h : Rels R l m) (n : Nat) : T.peek l n = T.peek m n := by
  have e : ∀ (l : List U.Pt), T.peek l n = ((l.map (·.r))[n]?).getD (-1) := by
    intro l
    unfold T.peek
    rw [List.getElem?_map]
    cases l[n]? <;> rfl
  rw [e, e, h.rs]
theorem num_rs (l : List U.Pt) : T.numOf l = (l.map (·.r)).foldl (fun a x => 10 * a + (x - 48).toNat) 0 := by
  unfold T.numOf
  rw [List.foldl_map]
theorem Rels.num {R : U.Pos → U.Pos → Prop} {l m : List U.Pt} (h : Rels R l m) : T.numOf l = T.numOf m := by rw [num_rs, num_rs, h.rs]
theorem Rels.head {R : U.Pos → U.Pos → Prop} : ∀ {l m : List U.Pt}, Rels R l m → l ≠ [] → R (T.headP l) (T.headP m)
  | [], [], _, hne => absurd rfl hne
  | _ :: _, _ :: _, h, _ => h.2.1
  | [], _ :: _, h, _ => h.elim
  | _ :: _, [], h, _ => h.elim

/-- tokens that are one, but for their places -/
def TRel (R : U.Pos → U.Pos → Prop) (t t' : T.Tok) : Prop := t.k = t'.k ∧ t.t = t'.t ∧ t.n = t'.n ∧ R t.p t'.p
inductive RRel (R : U.Pos → U.Pos → Prop) : T.Res → T.Res → Prop
  | ok {t t' : T.Tok} (n : Nat) (h : TRel R t t') : RRel R (.ok t n) (.ok t' n)
  | bad (e : Int) (p p' : U.Pos) : RRel R (.bad e p) (.bad e p')
def TRels (R : U.Pos → U.Pos → Prop) : List T.Tok → List T.Tok → Prop
  | [], [] => True
  | x :: l, y :: m => TRel R x y ∧ TRels R l m
  | _, _ => False
theorem TRels.len {R : U.Pos → U.Pos → Prop} : ∀ {l m : List T.Tok}, TRels R l m → l.length = m.length
  | [], [], _ => rfl
  | _ :: _, _ :: _, h => by simp [TRels.len h.2]
  | [], _ :: _, h => h.elim
  | _ :: _, [], h => h.elim
theorem TRels.at {R : U.Pos → U.Pos → Prop} : ∀ {l m : List T.Tok}, TRels R l m → ∀ i (h1 : i < l.length) (h2 : i < m.length), TRel R (l[i]'h1) (m[i]'h2)
  | [], [], _, i, h1, _ => by simp at h1
  | _ :: _, _ :: _, h, 0, _, _ => h.1
  | _ :: _, _ :: _, h, i + 1, h1, h2 => TRels.at h.2 i (by simpa using h1) (by simpa using h2)
  | [], _ :: _, h, _, _, _ => h.elim
  | _ :: _, [], h, _, _, _ => h.elim

theorem word_rel {R : U.Pos → U.Pos → Prop} {l m : List U.Pt} (h : Rels R l m) (hne : l ≠ []) : RRel R (T.word l) (T.word m) := by
  unfold T.word
  have hc := h.count [2, 3, 4, 5]
  obtain ⟨N, hN⟩ : ∃ N, T.count [2, 3, 4, 5] m = N := ⟨_, rfl⟩
  rw [hN] at hc
  have ht := (h.take N).text
  obtain ⟨X, hX⟩ : ∃ X, T.textOf (m.take N) = X := ⟨_, rfl⟩
  rw [hX] at ht
  have hh := h.head hne
  have hp := h.peek 0
  simp only [hN, hc, hX, ht, hp]
  by_cases h1 : T.words.contains X = true
  · rw [if_pos h1, if_pos h1]; exact .ok _ ⟨rfl, rfl, rfl, hh⟩
  · rw [if_neg h1, if_neg h1]
    by_cases h2 : T.prims.contains X = true
    · rw [if_pos h2, if_pos h2]; exact .ok _ ⟨rfl, rfl, rfl, hh⟩
    · rw [if_neg h2, if_neg h2]
      by_cases h3 : 24 < X.length
      · rw [if_pos h3, if_pos h3]; exact .bad _ _ _
      · rw [if_neg h3, if_neg h3]; exact .ok _ ⟨rfl, rfl, rfl, hh⟩
theorem number_rel {R : U.Pos → U.Pos → Prop} {l m : List U.Pt} (h : Rels R l m) (hne : l ≠ []) : RRel R (T.number l) (T.number m) := by
  unfold T.number
  have hc := h.count [2]
  obtain ⟨N, hN⟩ : ∃ N, T.count [2] m = N := ⟨_, rfl⟩
  rw [hN] at hc
  have ht := (h.take N).num
  obtain ⟨X, hX⟩ : ∃ X, T.numOf (m.take N) = X := ⟨_, rfl⟩
  rw [hX] at ht
  have hh := h.head hne
  simp only [hN, hc, hX, ht, h.peek 0, h.peek 1]
  by_cases h1 : T.peek m 0 = 48 ∧ T.kindR (T.peek m 1) = 2
  · rw [if_pos h1, if_pos h1]; exact .bad _ _ _
  · rw [if_neg h1, if_neg h1]
    by_cases h2 : 1099511627776 < X
    · rw [if_pos h2, if_pos h2]; exact .bad _ _ _
    · rw [if_neg h2, if_neg h2]; exact .ok _ ⟨rfl, rfl, rfl, hh⟩
theorem pq10 (P : U.Pos) (x : U.Pt) (t : List U.Pt) (acc : List UInt8) (n : Nat) (hr : x.r = 10) : T.quote P (x :: t) acc n = .bad 102 P := by cases t <;> simp [T.quote, hr]
theorem pq34 (P : U.Pos) (x : U.Pt) (t : List U.Pt) (acc : List UInt8) (n : Nat) (hr : x.r = 34) : T.quote P (x :: t) acc n = .ok ⟨4, acc, 0, P⟩ (n + 1) := by cases t <;> simp [T.quote, hr]
theorem pq92 (P : U.Pos) (x y : U.Pt) (t : List U.Pt) (acc : List UInt8) (n : Nat) (hr : x.r = 92) (hw : ¬ T.what y.r < 0) : T.quote P (x :: y :: t) acc n = T.quote P t (acc ++ Lib.encodeRune (T.what y.r)) (n + 2) := by simp [T.quote, hr, hw]
theorem pq92b (P : U.Pos) (x y : U.Pt) (t : List U.Pt) (acc : List UInt8) (n : Nat) (hr : x.r = 92) (hw : T.what y.r < 0) : T.quote P (x :: y :: t) acc n = .bad 100 x.p := by simp [T.quote, hr, hw]
theorem pq92e (P : U.Pos) (x : U.Pt) (acc : List UInt8) (n : Nat) (hr : x.r = 92) : T.quote P [x] acc n = .bad 100 x.p := by simp [T.quote, hr]
theorem pqon (P : U.Pos) (x : U.Pt) (t : List U.Pt) (acc : List UInt8) (n : Nat) (h10 : ¬ x.r = 10) (h34 : ¬ x.r = 34) (h92 : ¬ x.r = 92) : T.quote P (x :: t) acc n = T.quote P t (acc ++ Lib.encodeRune x.r) (n + 1) := by
  cases t <;> simp [T.quote, h10, h34, h92]
theorem quote_rel {R : U.Pos → U.Pos → Prop} {P P' : U.Pos} (hP : R P P') (l m : List U.Pt) (acc : List UInt8) (n : Nat) (h : Rels R l m) : RRel R (T.quote P l acc n) (T.quote P' m acc n) := by
  fun_induction T.quote P l acc n generalizing m with
  | case1 =>
    cases m with
    | nil => exact .bad _ _ _
    | cons => exact h.elim
  | case2 =>
    rename_i hx
    cases m with
    | nil => exact h.elim
    | cons y m => rw [pq10 _ y m _ _ (h.1.symm.trans hx)]; exact .bad _ _ _
  | case3 =>
    rename_i hx
    cases m with
    | nil => exact h.elim
    | cons y m => rw [pq34 _ y m _ _ (h.1.symm.trans hx)]; exact .ok _ ⟨rfl, rfl, rfl, hP⟩
  | case4 =>
    rename_i hx
    cases m with
    | nil => exact h.elim
    | cons y m =>
      cases m with
      | nil => rw [pq92e _ y _ _ (h.1.symm.trans hx)]; exact .bad _ _ _
      | cons => exact h.2.2.elim
  | case5 =>
    rename_i hx _ _ hw
    cases m with
    | nil => exact h.elim
    | cons y m =>
      cases m with
      | nil => exact h.2.2.elim
      | cons z m =>
        rw [h.2.2.1] at hw
        rw [pq92b _ y z m _ _ (h.1.symm.trans hx) hw]; exact .bad _ _ _
  | case6 =>
    rename_i hx _ _ hw ih
    cases m with
    | nil => exact h.elim
    | cons y m =>
      cases m with
      | nil => exact h.2.2.elim
      | cons z m =>
        have h2 := h.2.2.1
        have := ih m h.2.2.2.2
        rw [h2] at hw this ⊢
        rw [pq92 _ y z m _ _ (h.1.symm.trans hx) hw]
        exact this
  | case7 =>
    rename_i ha hb hc ih
    cases m with
    | nil => exact h.elim
    | cons y m =>
      have h1 := h.1
      have := ih m h.2.2
      rw [h1] at this ha hb hc ⊢
      rw [pqon _ y m _ _ ha hb hc]
      exact this
theorem quoted_rel {R : U.Pos → U.Pos → Prop} {l m : List U.Pt} (h : Rels R l m) (hne : l ≠ []) : RRel R (T.quoted l) (T.quoted m) := by
  unfold T.quoted
  have := h.drop 1
  rw [List.drop_one, List.drop_one] at this
  exact quote_rel (h.head hne) _ _ _ _ this
theorem better_rel {R : U.Pos → U.Pos → Prop} {l m : List U.Pt} (h : Rels R l m) : T.better l = T.better m := by
  funext b s
  unfold T.better
  rw [h.len, (h.take s.length).text]
theorem sign_as (l : List U.Pt) (b : List UInt8) (hq : T.bestOf l T.signs = b) : T.sign l = if b = [] then T.Res.bad 100 (T.headP l) else T.Res.ok ⟨5, b, 0, T.headP l⟩ b.length := by
  unfold T.sign
  rw [hq]
theorem best_rel {R : U.Pos → U.Pos → Prop} {l m : List U.Pt} (h : Rels R l m) (ss : List (List UInt8)) : T.bestOf l ss = T.bestOf m ss := by
  unfold T.bestOf
  rw [better_rel h]
theorem sign_rel2 {R : U.Pos → U.Pos → Prop} {l m : List U.Pt} (hh : R (T.headP l) (T.headP m)) (b : List UInt8) (x y : T.Res) (hx : x = if b = [] then T.Res.bad 100 (T.headP l) else T.Res.ok ⟨5, b, 0, T.headP l⟩ b.length)
    (hy : y = if b = [] then T.Res.bad 100 (T.headP m) else T.Res.ok ⟨5, b, 0, T.headP m⟩ b.length) : RRel R x y := by
  rw [hx, hy]
  by_cases h1 : b = []
  · rw [if_pos h1, if_pos h1]; exact .bad _ _ _
  · rw [if_neg h1, if_neg h1]; exact .ok _ ⟨rfl, rfl, rfl, hh⟩
theorem sign_rel {R : U.Pos → U.Pos → Prop} {l m : List U.Pt} (h : Rels R l m) (hne : l ≠ []) : RRel R (T.sign l) (T.sign m) := by
  have key : ∀ b, T.bestOf m T.signs = b → RRel R (T.sign l) (T.sign m) := by
    intro b hb
    exact sign_rel2 (h.head hne) b _ _ (sign_as l b ((best_rel h _).trans hb)) (sign_as m b hb)
  exact key _ rfl
theorem token_as (l : List U.Pt) (x : T.Res) (hx : T.sign l = x) : T.token l = if T.kindR (T.peek l 0) = 3 ∨ T.kindR (T.peek l 0) = 4 then T.word l else if T.kindR (T.peek l 0) = 2 then T.number l else if T.peek l 0 = 34 then T.quoted l else x := by
  unfold T.token
  rw [hx]
theorem token_rel2 {R : U.Pos → U.Pos → Prop} {l m : List U.Pt} (h : Rels R l m) (hne : l ≠ []) (x y : T.Res) (hx : T.sign l = x) (hy : T.sign m = y) (hs : RRel R x y) : RRel R (T.token l) (T.token m) := by
  rw [token_as l x hx, token_as m y hy, h.peek 0]
  by_cases h1 : T.kindR (T.peek m 0) = 3 ∨ T.kindR (T.peek m 0) = 4
  · rw [if_pos h1, if_pos h1]; exact word_rel h hne
  · rw [if_neg h1, if_neg h1]
    by_cases h2 : T.kindR (T.peek m 0) = 2
    · rw [if_pos h2, if_pos h2]; exact number_rel h hne
    · rw [if_neg h2, if_neg h2]
      by_cases h3 : T.peek m 0 = 34
      · rw [if_pos h3, if_pos h3]; exact quoted_rel h hne
      · rw [if_neg h3, if_neg h3]; exact hs
theorem token_rel {R : U.Pos → U.Pos → Prop} {l m : List U.Pt} (h : Rels R l m) (hne : l ≠ []) : RRel R (T.token l) (T.token m) :=
  token_rel2 h hne _ _ rfl rfl (sign_rel h hne)
theorem skip_rel {R : U.Pos → U.Pos → Prop} : ∀ (b : Bool) (l m : List U.Pt), Rels R l m → Rels R (T.skip b l) (T.skip b m)
  | b, [], [], _ => by cases b <;> simp [T.skip, Rels]
  | false, x :: l, y :: m, h => by
    have h0 := h.1
    have hp := h.2.2.peek 0
    unfold T.skip
    rw [h0, hp]
    split
    · exact skip_rel false l m h.2.2
    · split
      · exact skip_rel true l m h.2.2
      · exact h
  | true, x :: l, y :: m, h => by
    have h0 := h.1
    unfold T.skip
    rw [h0]
    split
    · exact skip_rel false l m h.2.2
    · exact skip_rel true l m h.2.2
  | _, [], _ :: _, h => h.elim
  | _, _ :: _, [], h => h.elim
theorem toks_rel {R : U.Pos → U.Pos → Prop} : ∀ (f : Nat) (l m : List U.Pt), Rels R l m → (T.toks f l).2.1 = (T.toks f m).2.1 ∧ TRels R (T.toks f l).1 (T.toks f m).1
  | 0, _, _, _ => by simp [T.toks, TRels]
  | f + 1, l, m, h => by
    have hs := skip_rel false l m h
    rw [toks_succ, toks_succ]
    obtain ⟨L, hL⟩ : ∃ L, T.skip false l = L := ⟨_, rfl⟩
    obtain ⟨M, hM⟩ : ∃ M, T.skip false m = M := ⟨_, rfl⟩
    rw [hL, hM] at hs ⊢
    match L, M, hs with
    | [], [], _ => simp [toksS, TRels]
    | x :: L, y :: M, hs =>
      have ht := token_rel hs (by simp)
      unfold toksS
      simp only
      generalize T.token (x :: L) = a at ht ⊢
      generalize T.token (y :: M) = b at ht ⊢
      cases ht with
      | bad e p p' => exact ⟨rfl, by simp [TRels]⟩
      | ok n htt =>
        obtain ⟨i1, i2⟩ := toks_rel f _ _ (hs.drop n)
        simp only
        rw [i1]
        by_cases h0 : (T.toks f ((y :: M).drop n)).2.1 = 0
        · rw [if_pos h0, if_pos h0]; exact ⟨rfl, htt, i2⟩
        · rw [if_neg h0, if_neg h0]; exact ⟨i1, by simp [TRels]⟩

/-- fuel makes no difference, if there is enough -/
theorem toks_fuel : ∀ (f g : Nat) (l : List U.Pt), l.length < f → l.length < g → T.toks f l = T.toks g l
  | 0, _, _, h, _ => by omega
  | _, 0, _, _, h => by omega
  | f + 1, g + 1, l, h1, h2 => by
    rw [toks_succ, toks_succ]
    have hle := T.skip_le false l
    obtain ⟨L, hL⟩ : ∃ L, T.skip false l = L := ⟨_, rfl⟩
    rw [hL] at hle ⊢
    match L, hle with
    | [], _ => rfl
    | x :: L, hle =>
      unfold toksS
      simp only
      cases h1 : T.token (x :: L) with
      | bad e p => rfl
      | ok t n =>
        have hn := token_n x L t n h1
        have : T.toks f ((x :: L).drop n) = T.toks g ((x :: L).drop n) := by
          refine toks_fuel f g _ ?_ ?_ <;> (rw [List.length_drop]; simp at hle ⊢; omega)
        simp only
        rw [this]
theorem skip_drop : ∀ (b : Bool) (l : List U.Pt), ∃ i, T.skip b l = l.drop i
  | b, [] => ⟨0, by cases b <;> simp [T.skip]⟩
  | false, x :: t => by
    obtain ⟨i, hi⟩ := skip_drop false t
    obtain ⟨j, hj⟩ := skip_drop true t
    unfold T.skip
    split
    · exact ⟨i + 1, by simpa using hi⟩
    · split
      · exact ⟨j + 1, by simpa using hj⟩
      · exact ⟨0, rfl⟩
  | true, x :: t => by
    obtain ⟨i, hi⟩ := skip_drop false t
    obtain ⟨j, hj⟩ := skip_drop true t
    unfold T.skip
    split
    · exact ⟨i + 1, by simpa using hi⟩
    · exact ⟨j + 1, by simpa using hj⟩
theorem skip_twice : ∀ (b : Bool) (l : List U.Pt), T.skip false (T.skip b l) = T.skip b l
  | b, [] => by cases b <;> simp [T.skip]
  | false, x :: t => by
    have h1 := skip_twice false t
    have h2 := skip_twice true t
    by_cases hk : T.kindR x.r = 1
    · have e : T.skip false (x :: t) = T.skip false t := by rw [T.skip, if_pos hk]
      rw [e, h1]
    · by_cases hr : x.r = 45 ∧ T.peek t 0 = 45
      · have e : T.skip false (x :: t) = T.skip true t := by rw [T.skip, if_neg hk, if_pos hr]
        rw [e, h2]
      · have e : T.skip false (x :: t) = x :: t := by rw [T.skip, if_neg hk, if_neg hr]
        rw [e, e]
  | true, x :: t => by
    have h1 := skip_twice false t
    have h2 := skip_twice true t
    by_cases hr : x.r = 10
    · have e : T.skip true (x :: t) = T.skip false t := by rw [T.skip, if_pos hr]
      rw [e, h1]
    · have e : T.skip true (x :: t) = T.skip true t := by rw [T.skip, if_neg hr]
      rw [e, h2]
theorem token_p (l : List U.Pt) (k : T.Tok) (n : Nat) (h : T.token l = .ok k n) : k.p = T.headP l := by
  rcases token_cases l with ⟨e, hk⟩ | ⟨e, hk⟩ | e | e
  · rw [e] at h; exact word_p _ _ _ h
  · rw [e] at h; exact number_p _ _ _ h
  · rw [e] at h; exact quoted_p _ _ _ h
  · rw [e] at h; exact sign_p _ _ _ h
/-- the first token: where it stands, what is told behind it -/
theorem toks_first (f : Nat) (l : List U.Pt) (t : T.Tok) (ts : List T.Tok) (z : U.Pos) (h : T.toks f l = (t :: ts, 0, z)) :
    ∃ g i, f = g + 1 ∧ ∃ (hi : i < l.length), (l[i]'hi).p = t.p ∧ T.toks f (l.drop i) = (t :: ts, 0, z) ∧ ∃ n, 1 ≤ n ∧ T.token (l.drop i) = .ok t n ∧ T.toks g (l.drop (i + n)) = (ts, 0, (T.toks g (l.drop (i + n))).2.2) := by
  cases f with
  | zero => simp [T.toks] at h
  | succ g =>
    obtain ⟨i, hi⟩ := skip_drop false l
    have h2 := skip_twice false l
    have h' := h
    rw [toks_succ, hi] at h'
    rw [hi] at h2
    obtain ⟨L, hL⟩ : ∃ L, l.drop i = L := ⟨_, rfl⟩
    rw [hL] at h' h2
    match L, h', h2, hL with
    | [], h', _, _ => simp [toksS] at h'
    | x :: L, h', h2, hL =>
      have hil : i < l.length := by
        have : (l.drop i).length = (x :: L).length := by rw [hL]
        rw [List.length_drop] at this
        simp at this
        omega
      have hx : l[i]'hil = x := by
        rw [List.drop_eq_getElem_cons hil] at hL
        injection hL
      refine ⟨g, i, rfl, hil, ?_⟩
      have hr : T.toks (g + 1) (l.drop i) = (t :: ts, 0, z) := by rw [toks_succ, hL, h2]; exact h'
      unfold toksS at h'
      simp only at h'
      cases ht : T.token (x :: L) with
      | bad e p => rw [ht] at h'; simp at h'
      | ok k n =>
        rw [ht] at h'
        simp only at h'
        by_cases h0 : (T.toks g ((x :: L).drop n)).2.1 = 0
        · rw [if_pos h0] at h'
          have e1 : k = t := by have := congrArg Prod.fst h'; simp at this; exact this.1
          have e2 : (T.toks g ((x :: L).drop n)).1 = ts := by have := congrArg Prod.fst h'; simp at this; exact this.2
          subst e1
          have hdd : l.drop (i + n) = (x :: L).drop n := by rw [← hL, List.drop_drop]
          refine ⟨?_, hr, n, token_n x L k n ht, by rw [hL]; exact ht, ?_⟩
          · rw [hx, token_p _ _ _ ht]; rfl
          · rw [hdd]
            exact Prod.ext e2 (Prod.ext h0 rfl)
        · rw [if_neg h0] at h'
          simp at h'
theorem toksS_zero (f : Nat) : ∀ (l : List U.Pt), (toksS f l).2.1 = 0 → (toksS f l).2.2 = U.zero
  | [], _ => rfl
  | x :: t, h => by
    unfold toksS at h ⊢
    simp only at h ⊢
    cases ht : T.token (x :: t) with
    | bad e p => rw [ht] at h; exact absurd h (token_e _ _ _ ht)
    | ok k n =>
      rw [ht] at h
      simp only at h ⊢
      by_cases h0 : (T.toks f ((x :: t).drop n)).2.1 = 0
      · rw [if_pos h0]
      · rw [if_neg h0] at h; exact absurd h h0
theorem toks_zero (f : Nat) (l : List U.Pt) (h : (T.toks f l).2.1 = 0) : (T.toks f l).2.2 = U.zero := by
  cases f with
  | zero => rfl
  | succ f =>
    rw [toks_succ] at h ⊢
    exact toksS_zero f _ h
/-- each token: where it stands, what is told from there on -/
theorem toks_nth : ∀ (n f : Nat) (l : List U.Pt) (ts : List T.Tok), T.toks f l = (ts, 0, U.zero) → ∀ (hn : n < ts.length),
    ∃ i, ∃ (hi : i < l.length), n ≤ i ∧ (l[i]'hi).p = (ts[n]'hn).p ∧ T.toks (f - n) (l.drop i) = (ts.drop n, 0, U.zero)
  | 0, f, l, t :: ts, h, _ => by
    obtain ⟨g, i, _, hi, hp, hr, _⟩ := toks_first f l t ts _ h
    exact ⟨i, hi, Nat.zero_le _, hp, hr⟩
  | n + 1, f, l, t :: ts, h, hn => by
    obtain ⟨g, i, rfl, hi, hp, hr, k, hk, _, hg⟩ := toks_first f l t ts _ h
    have hz : (T.toks g (l.drop (i + k))).2.1 = 0 := by rw [hg]
    rw [toks_zero _ _ hz] at hg
    obtain ⟨j, hj, hnj, hpj, hrj⟩ := toks_nth n g _ ts hg (by simpa using hn)
    have hj' : i + k + j < l.length := by rw [List.length_drop] at hj; omega
    refine ⟨i + k + j, hj', by omega, ?_, ?_⟩
    · rw [List.getElem_drop] at hpj
      simpa using hpj
    · rw [List.drop_drop] at hrj
      rw [Nat.add_sub_add_right]
      simpa using hrj
/-- two tokens, one behind the other -/
theorem toks_next (n f : Nat) (l : List U.Pt) (ts : List T.Tok) (h : T.toks f l = (ts, 0, U.zero)) (hn : n + 1 < ts.length) :
    ∃ i j, ∃ (hi : i < l.length) (hj : j < l.length), i < j ∧ (l[i]'hi).p = (ts[n]'(by omega)).p ∧ (l[j]'hj).p = (ts[n + 1]'hn).p := by
  obtain ⟨i, hi, _, hp, hr⟩ := toks_nth n f l ts h (by omega)
  rw [List.drop_eq_getElem_cons (by omega : n < ts.length)] at hr
  obtain ⟨g, i2, _, hi2, hp2, _, k, hk, _, hg⟩ := toks_first _ _ _ _ _ hr
  have hz : (T.toks g ((l.drop i).drop (i2 + k))).2.1 = 0 := by rw [hg]
  rw [toks_zero _ _ hz] at hg
  obtain ⟨j, hj, _, hpj, _⟩ := toks_nth 0 g _ _ hg (by rw [List.length_drop]; omega)
  have hi2' : i + i2 < l.length := by rw [List.length_drop] at hi2; omega
  have hj' : i + (i2 + k) + j < l.length := by rw [List.length_drop, List.length_drop] at hj; omega
  refine ⟨i + i2, i + (i2 + k) + j, hi2', hj', by omega, ?_, ?_⟩
  · rw [List.getElem_drop] at hp2
    exact hp2
  · rw [List.getElem_drop, List.getElem_drop, List.getElem_drop] at hpj
    simpa [Nat.add_assoc] using hpj
end Go.Proofs.YtaojgcioljcpmaaGreatDoor
