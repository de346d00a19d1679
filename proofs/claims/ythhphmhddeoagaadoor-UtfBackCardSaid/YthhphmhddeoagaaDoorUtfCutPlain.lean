/- Plain facts about texts that are cut, and texts one behind the other. -/
import Derived.Test.YthhphmhddeoagaaDoorUtfK
namespace Go.Proofs.YthhphmhddeoagaaDoor.U
open Go.Lib

/-- what begins with a code point begins with its bytes -/
theorem split_enc (b : List UInt8) (hb : 0 < b.length) (h : bad b = false) :
    b = Go.Lib.encodeRune (dec b).1 ++ b.drop (dec b).2 ∧ Go.Lib.validRune (dec b).1 = true ∧ (dec b).2 = (Go.Lib.encodeRune (dec b).1).length := by
  obtain ⟨h1, h2, h3⟩ := enc_dec b hb h
  refine ⟨by rw [h2]; exact (List.take_append_drop _ _).symm, h1, ?_⟩
  have := congrArg List.length h2
  rw [List.length_take] at this
  omega

/-- what stands behind does not matter -/
theorem dec_more (b t : List UInt8) (hb : 0 < b.length) (h : bad b = false) : dec (b ++ t) = dec b ∧ bad (b ++ t) = false := by
  obtain ⟨h1, h2, h3⟩ := split_enc b hb h
  have e : b ++ t = Go.Lib.encodeRune (dec b).1 ++ (b.drop (dec b).2 ++ t) := by
    rw [← List.append_assoc, ← h1]
  have e1 := dec_enc (dec b).1 (b.drop (dec b).2 ++ t) h2
  have e2 := bad_enc (dec b).1 (b.drop (dec b).2 ++ t) h2
  rw [e]
  refine ⟨?_, e2⟩
  rw [e1, ← h3]
  exact Prod.ext (by simp) rfl

/-- a part of a code point is none -/
theorem bad_part (b : List UInt8) (k : Nat) (hb : 0 < b.length) (h : bad b = false) (h0 : 0 < k) (hk : k < (dec b).2) : bad (b.take k) = true := by
  by_cases hx : bad (b.take k) = true
  · exact hx
  · have hx' : bad (b.take k) = false := by simpa using hx
    have hle := (enc_dec b hb h).2.2
    have hl : 0 < (b.take k).length := by rw [List.length_take]; omega
    have := (dec_more (b.take k) (b.drop k) hl hx').1
    rw [List.take_append_drop] at this
    have h2 := (enc_dec (b.take k) hl hx').2.2
    rw [← this, List.length_take] at h2
    omega

theorem scan_fuel (s : List UInt8) : ∀ f g i p, s.length ≤ i + f → s.length ≤ i + g → scan s f i p = scan s g i p
  | 0, g, i, p, h1, _ => by rw [scan_end s 0 i p (by omega), scan_end s g i p (by omega)]
  | f + 1, g, i, p, h1, h2 => by
    by_cases h : i < s.length
    · cases g with
      | zero => omega
      | succ g =>
        by_cases hb : bad (s.drop i) = true
        · rw [scan_bad s f i p h hb, scan_bad s g i p h hb]
        · have hb' : bad (s.drop i) = false := by simpa using hb
          have hd := dec_le (s.drop i)
          rw [scan_good s f i p h hb', scan_good s g i p h hb', scan_fuel s f g _ _ (by omega) (by omega)]
    · rw [scan_end s _ i p h, scan_end s g i p h]

/-- from a place on: a list of its own -/
theorem scan_drop (s : List UInt8) : ∀ f i p, scan s f i p = scan (s.drop i) f 0 p
  | 0, i, p => rfl
  | f + 1, i, p => by
    by_cases h : i < s.length
    · have h' : 0 < (s.drop i).length := by rw [List.length_drop]; omega
      by_cases hb : bad (s.drop i) = true
      · rw [scan_bad s f i p h hb, scan_bad (s.drop i) f 0 p h' (by rwa [List.drop_zero])]
      · have hb' : bad (s.drop i) = false := by simpa using hb
        rw [scan_good s f i p h hb', scan_good (s.drop i) f 0 p h' (by rwa [List.drop_zero])]
        rw [List.drop_zero, scan_drop s f, scan_drop (s.drop i) f, List.drop_drop, Nat.zero_add]
    · rw [scan_end s (f + 1) i p h, scan_end (s.drop i) (f + 1) 0 p (by rw [List.length_drop]; omega)]

/-- the code points of a list, from a place on, as a relation -/
def Run : List UInt8 → Pos → List Pt → Pos → Prop
  | s, p, [], q => s = [] ∧ p = q
  | s, p, x :: l, q => x.p = p ∧ Go.Lib.validRune x.r = true ∧ ∃ b, s = Go.Lib.encodeRune x.r ++ b ∧ Run b (next p x.r (Go.Lib.encodeRune x.r).length) l q

theorem Run.nil (p : Pos) : Run [] p [] p := ⟨rfl, rfl⟩
theorem Run.cons (r : Int) (b : List UInt8) (p q : Pos) (l : List Pt) (h : Go.Lib.validRune r = true) (t : Run b (next p r (Go.Lib.encodeRune r).length) l q) : Run (Go.Lib.encodeRune r ++ b) p (⟨r, p⟩ :: l) q := ⟨rfl, h, b, rfl, t⟩

theorem run_of_scan : ∀ f (s : List UInt8) p, s.length ≤ f → (scan s f 0 p).2.2 = true → Run s p (scan s f 0 p).1 (scan s f 0 p).2.1
  | 0, s, p, h, _ => by
    obtain rfl : s = [] := List.eq_nil_of_length_eq_zero (by omega)
    exact Run.nil p
  | f + 1, s, p, h, hok => by
    by_cases h0 : 0 < s.length
    · by_cases hb : bad s = true
      · rw [scan_bad s f 0 p h0 (by rwa [List.drop_zero])] at hok
        cases hok
      · have hb' : bad s = false := by simpa using hb
        have e := scan_good s f 0 p h0 (by rwa [List.drop_zero])
        rw [List.drop_zero, Nat.zero_add] at e
        obtain ⟨h1, h2, h3⟩ := split_enc s h0 hb'
        have hd := dec_le s
        rw [e] at hok ⊢
        rw [scan_drop] at hok ⊢
        have ih := run_of_scan f (s.drop (dec s).2) (next p (dec s).1 (dec s).2) (by rw [List.length_drop]; omega) hok
        have := Run.cons (dec s).1 (s.drop (dec s).2) p _ _ h2 (by rw [← h3]; exact ih)
        rw [← h1] at this
        exact this
    · obtain rfl : s = [] := List.eq_nil_of_length_eq_zero (by omega)
      rw [scan_end [] (f + 1) 0 p h0]
      exact Run.nil p

theorem scan_of_run : ∀ (l : List Pt) (s : List UInt8) (p q : Pos), Run s p l q → ∀ f, s.length ≤ f → scan s f 0 p = (l, q, true)
  | [], s, p, q, h, f, _ => by
    obtain ⟨rfl, rfl⟩ := h
    exact scan_end [] f 0 p (by simp)
  | ⟨r, p'⟩ :: l, s, p, q, h, f, hf => by
    obtain ⟨hp, hv, b, rfl, t⟩ := h
    simp only at hp hv t hf ⊢
    subst hp
    have hl := enc_length r
    rw [List.length_append] at hf
    cases f with
    | zero => omega
    | succ f =>
      have h0 : 0 < (Go.Lib.encodeRune r ++ b).length := by rw [List.length_append]; omega
      have e := scan_good (Go.Lib.encodeRune r ++ b) f 0 p' h0 (by rw [List.drop_zero]; exact bad_enc r b hv)
      have hr : ((r.toNat : Nat) : Int) = r := by rw [valid_iff] at hv; omega
      have ih := scan_of_run l b _ q t f (by omega)
      rw [e, List.drop_zero, dec_enc r b hv, scan_drop]
      rw [Nat.zero_add, List.drop_left]
      simp only [hr]
      rw [ih]

theorem all_run (s : List UInt8) (h : (all s).2.2 = true) : Run s start (all s).1 (all s).2.1 := run_of_scan s.length s start (Nat.le_refl _) h
theorem run_all {s : List UInt8} {l : List Pt} {q : Pos} (h : Run s start l q) : all s = (l, q, true) := scan_of_run l s start q h s.length (Nat.le_refl _)

/-- a text is right just if there is a run -/
theorem right_iff (s : List UInt8) : eE s = 0 ↔ s.length ≤ 4000 ∧ ∃ l q, Run s start l q := by
  constructor
  · intro h
    unfold eE at h
    by_cases hl : 4000 < s.length
    · rw [if_pos hl] at h; cases h
    · rw [if_neg hl] at h
      by_cases hok : (all s).2.2 = true
      · exact ⟨by omega, _, _, all_run s hok⟩
      · rw [if_neg hok] at h; cases h
  · rintro ⟨hl, l, q, hr⟩
    have := run_all hr
    unfold eE
    rw [if_neg (by omega), this]
    rfl
theorem right_tells {s : List UInt8} {l : List Pt} {q : Pos} (hl : s.length ≤ 4000) (h : Run s start l q) : pts s = l ∧ eE s = 0 ∧ eP s = zero ∧ endP s = q := by
  have := run_all h
  have hne : ¬ 4000 < s.length := by omega
  simp only [pts, eE, eP, endP, if_neg hne, this]
  exact ⟨rfl, rfl, rfl, rfl⟩

theorem run_append : ∀ (l : List Pt) (s t : List UInt8) (p q r : Pos) (m : List Pt), Run s p l q → Run t q m r → Run (s ++ t) p (l ++ m) r
  | [], s, t, p, q, r, m, h, k => by
    obtain ⟨rfl, rfl⟩ := h
    exact k
  | x :: l, s, t, p, q, r, m, h, k => by
    obtain ⟨hp, hv, b, rfl, t'⟩ := h
    exact ⟨hp, hv, b ++ t, List.append_assoc _ _ _, run_append l b t _ q r m t' k⟩

theorem run_len : ∀ (l : List Pt) (s : List UInt8) (p q : Pos), Run s p l q → q.a = p.a + s.length ∧ l.length ≤ s.length
  | [], s, p, q, h => by
    obtain ⟨rfl, rfl⟩ := h
    simp
  | x :: l, s, p, q, h => by
    obtain ⟨hp, hv, b, rfl, t⟩ := h
    have := enc_length x.r
    have ih := run_len l b _ q t
    rw [next_a] at ih
    rw [List.length_append, List.length_cons]
    refine ⟨?_, by omega⟩
    omega

/-- the bytes of the code points are the text -/
theorem run_bytes : ∀ (l : List Pt) (s : List UInt8) (p q : Pos), Run s p l q → encL (l.map (·.r)) = s ∧ okL (l.map (·.r)) = true
  | [], s, p, q, h => by
    obtain ⟨rfl, rfl⟩ := h
    exact ⟨rfl, rfl⟩
  | x :: l, s, p, q, h => by
    obtain ⟨hp, hv, b, rfl, t⟩ := h
    have ih := run_bytes l b _ q t
    refine ⟨?_, ?_⟩
    · simp only [encL, List.map_cons, List.flatMap_cons] at ih ⊢; rw [ih.1]
    · simp only [okL, List.map_cons, List.all_cons, hv, Bool.true_and] at ih ⊢; exact ih.2

theorem run_put : ∀ (zs : List Int) (p : Pos), okL zs = true → ∃ l q, Run (encL zs) p l q ∧ l.map (·.r) = zs
  | [], p, _ => ⟨[], p, Run.nil p, rfl⟩
  | z :: zs, p, h => by
    simp only [okL, List.all_cons, Bool.and_eq_true] at h
    obtain ⟨l, q, h1, h2⟩ := run_put zs (next p z (Go.Lib.encodeRune z).length) h.2
    exact ⟨⟨z, p⟩ :: l, q, by simp only [encL, List.flatMap_cons]; exact Run.cons z _ p q l h.1 h1, by simp [h2]⟩

/-- places moved behind an end -/
def shift (e p : Pos) : Pos := ⟨p.a + e.a, p.l + (e.l - 1), if p.l = 1 then p.c + (e.c - 1) else p.c⟩
theorem shift_start (e : Pos) : shift e start = e := by
  obtain ⟨a, l, c⟩ := e
  simp only [shift, start, if_true, Pos.mk.injEq]
  omega
theorem next_shift (e p : Pos) (r z : Int) (h : 1 ≤ p.l) : next (shift e p) r z = shift e (next p r z) := by
  unfold next
  by_cases hr : r = 10
  · simp only [hr, if_true, shift, Pos.mk.injEq]
    rw [if_neg (by omega)]
    omega
  · rw [if_neg hr, if_neg hr]
    unfold shift
    by_cases hl : p.l = 1
    · simp only [if_pos hl, Pos.mk.injEq]
      exact ⟨by omega, by first | trivial | omega, by first | trivial | omega⟩
    · simp only [if_neg hl, Pos.mk.injEq, and_true]
      omega
theorem next_l (p : Pos) (r z : Int) (h : 1 ≤ p.l) : 1 ≤ (next p r z).l := by unfold next; split <;> simp only <;> omega
theorem run_shift (e : Pos) : ∀ (l : List Pt) (s : List UInt8) (p q : Pos), Run s p l q → 1 ≤ p.l → Run s (shift e p) (l.map fun x => ⟨x.r, shift e x.p⟩) (shift e q)
  | [], s, p, q, h, _ => by
    obtain ⟨rfl, rfl⟩ := h
    exact Run.nil _
  | x :: l, s, p, q, h, hp => by
    obtain ⟨hp', hv, b, rfl, t⟩ := h
    rw [List.map_cons]
    refine ⟨by simp only [hp'], hv, b, rfl, ?_⟩
    simp only
    rw [next_shift e p x.r _ hp]
    exact run_shift e l b _ q t (next_l p x.r _ hp)


/-! ### a text that is cut -/

theorem run_right (s : List UInt8) (h : eE s = 0) : Run s start (pts s) (endP s) ∧ s.length ≤ 4000 := by
  obtain ⟨hl, l, q, hr⟩ := (right_iff s).1 h
  obtain ⟨h1, _, _, h4⟩ := right_tells hl hr
  rw [h1, h4]
  exact ⟨hr, hl⟩

/-- the place of the n-th code point, and what stands ahead of it and behind it -/
theorem run_split : ∀ (l : List Pt) (s : List UInt8) (p q : Pos) (n : Nat) (h : n < l.length), Run s p l q →
    ∃ s1 s2, s = s1 ++ s2 ∧ Run s1 p (l.take n) (l[n]'h).p ∧ Run s2 (l[n]'h).p (l.drop n) q ∧ (l[n]'h).p.a = p.a + s1.length
  | x :: l, s, p, q, 0, h, k => by
    obtain ⟨hp, hv, b, rfl, t⟩ := k
    refine ⟨[], _, rfl, ⟨rfl, hp.symm⟩, ?_, ?_⟩
    · rw [List.drop_zero]
      refine ⟨rfl, hv, b, rfl, ?_⟩
      simp only [List.getElem_cons_zero]
      rw [hp]; exact t
    · simp [hp]
  | x :: l, s, p, q, n + 1, h, k => by
    obtain ⟨hp, hv, b, rfl, t⟩ := k
    obtain ⟨s1, s2, e, h1, h2, h3⟩ := run_split l b _ q n (by simpa using h) t
    refine ⟨Go.Lib.encodeRune x.r ++ s1, s2, by rw [e, List.append_assoc], ?_, ?_, ?_⟩
    · rw [List.take_succ_cons, List.getElem_cons_succ]
      exact ⟨hp, hv, s1, rfl, h1⟩
    · rw [List.drop_succ_cons, List.getElem_cons_succ]; exact h2
    · rw [List.getElem_cons_succ, h3, next_a, List.length_append]; omega

/-- a text that is cut between two code points -/
theorem cut_between (l : List Pt) (s : List UInt8) (p q : Pos) (n : Nat) (h : n < l.length) (k : Run s p l q) (c : Nat) (hc : (l[n]'h).p.a = p.a + c) : Run (s.take c) p (l.take n) (l[n]'h).p := by
  obtain ⟨s1, s2, e, h1, _, h3⟩ := run_split l s p q n h k
  have : c = s1.length := by omega
  rw [e, this, List.take_left]
  exact h1

theorem scan_run_then : ∀ (l : List Pt) (s b : List UInt8) (p q : Pos), Run s p l q → 0 < b.length → bad b = true → ∀ f, (s ++ b).length ≤ f → scan (s ++ b) f 0 p = (l, q, false)
  | [], s, b, p, q, h, hb, hbad, f, hf => by
    obtain ⟨rfl, rfl⟩ := h
    cases f with
    | zero => rw [List.length_append] at hf; omega
    | succ f => exact scan_bad b f 0 p hb (by rwa [List.drop_zero])
  | ⟨r, p'⟩ :: l, s, b, p, q, h, hb, hbad, f, hf => by
    obtain ⟨hp, hv, b', rfl, t⟩ := h
    simp only at hp hv t hf ⊢
    subst hp
    have hl := enc_length r
    rw [List.length_append, List.length_append] at hf
    cases f with
    | zero => omega
    | succ f =>
      rw [List.append_assoc]
      have h0 : 0 < (Go.Lib.encodeRune r ++ (b' ++ b)).length := by rw [List.length_append]; omega
      have e := scan_good (Go.Lib.encodeRune r ++ (b' ++ b)) f 0 p' h0 (by rw [List.drop_zero]; exact bad_enc r _ hv)
      have hr : ((r.toNat : Nat) : Int) = r := by rw [valid_iff] at hv; omega
      have ih := scan_run_then l b' b _ q t hb hbad f (by rw [List.length_append]; omega)
      rw [e, List.drop_zero, dec_enc r _ hv, scan_drop]
      rw [Nat.zero_add, List.drop_left]
      simp only [hr]
      rw [ih]

/-- a text that is cut within a code point: the error stands at its place -/
theorem cut_within (l : List Pt) (s : List UInt8) (q : Pos) (n : Nat) (h : n < l.length) (k : Run s start l q) (hl : s.length ≤ 4000) (c : Nat) (hc : (l[n]'h).p.a < c) (hc2 : c < s.length)
    (hn : ∀ h' : n + 1 < l.length, (c : Int) < (l[n + 1]'h').p.a) : eE (s.take c) = 90 ∧ eP (s.take c) = (l[n]'h).p ∧ pts (s.take c) = [] := by
  obtain ⟨s1, s2, e, h1, h2, h3⟩ := run_split l s start q n h k
  have hd : l.drop n = l[n]'h :: l.drop (n + 1) := List.drop_eq_getElem_cons h
  rw [hd] at h2
  obtain ⟨_, hv, b, e2, t⟩ := h2
  have hs0 : start.a = 0 := rfl
  rw [hs0] at h3
  have hlt : c < s1.length + (Go.Lib.encodeRune (l[n]'h).r).length := by
    by_cases h' : n + 1 < l.length
    · have := hn h'
      have hd2 : l.drop (n + 1) = l[n + 1]'h' :: l.drop (n + 2) := List.drop_eq_getElem_cons h'
      rw [hd2] at t
      have hp := t.1
      rw [hp, next_a] at this
      omega
    · have : l.drop (n + 1) = [] := List.drop_eq_nil_of_le (by omega)
      rw [this] at t
      obtain ⟨rfl, _⟩ := t
      rw [e, e2] at hc2
      simp only [List.length_append, List.length_nil] at hc2
      omega
  have hcut : s.take c = s1 ++ (Go.Lib.encodeRune (l[n]'h).r).take (c - s1.length) := by
    rw [e, e2, List.take_append, List.take_append]
    rw [List.take_of_length_le (by omega)]
    congr 1
    have : c - s1.length - (Go.Lib.encodeRune (l[n]'h).r).length = 0 := by omega
    rw [this, List.take_zero, List.append_nil]
  have he := enc_length (l[n]'h).r
  have hb0 : 0 < (Go.Lib.encodeRune (l[n]'h).r).length := by omega
  have hg := bad_enc (l[n]'h).r [] hv
  have hd0 := dec_enc (l[n]'h).r [] hv
  rw [List.append_nil] at hg hd0
  have hbad := bad_part (Go.Lib.encodeRune (l[n]'h).r) (c - s1.length) hb0 hg (by omega) (by rw [hd0]; simp only; omega)
  have hall : all (s.take c) = (l.take n, (l[n]'h).p, false) := by
    unfold all
    rw [hcut]
    exact scan_run_then (l.take n) s1 _ start _ h1 (by rw [List.length_take]; omega) hbad _ (Nat.le_refl _)
  have hne : ¬ 4000 < (s.take c).length := by rw [List.length_take]; omega
  simp only [eE, eP, pts, if_neg hne, hall]
  exact ⟨rfl, rfl, rfl⟩

end Go.Proofs.YthhphmhddeoagaaDoor.U
