/- Plain facts about UTF-8: what is decoded, what is encoded, the places of code points. No program is in sight. -/
import Derived.Lib.DecodeN
import Derived.Lib.RuneBytes
import Derived.Lib.Small
namespace Go.Proofs.YtaojgcioljcpmaaGreatDoor.U
open Go.Lib

structure Pos where
  a : Int
  l : Int
  c : Int
structure Pt where
  r : Int
  p : Pos

def next (p : Pos) (r z : Int) : Pos := if r = 10 then ⟨p.a + z, p.l + 1, 1⟩ else ⟨p.a + z, p.l, p.c + 1⟩
def start : Pos := ⟨0, 1, 1⟩
def zero : Pos := ⟨0, 0, 0⟩

/-- the code point that a list of bytes begins with, and how many bytes it has -/
def dec (b : List UInt8) : Nat × Nat := decodeN b.length (b.getD 0 0).toNat (b.getD 1 0).toNat (b.getD 2 0).toNat (b.getD 3 0).toNat
def bad (b : List UInt8) : Bool := decide (dec b = (65533, 1))

theorem get_drop (s : ByteArray) (i k : Nat) : s.get! (i + k) = (s.data.toList.drop i).getD k 0 := by
  by_cases h : i + k < s.size
  · have h' : i + k < s.data.size := h
    have h2 : k < (s.data.toList.drop i).length := by simp; omega
    rw [List.getD_eq_getElem?_getD, List.getElem?_eq_getElem h2]
    simp only [ByteArray.get!, List.getElem_drop, Array.getElem_toList, Option.getD_some]
    rw [getElem!_pos s.data (i + k) h']
  · have h' : ¬ (i + k < s.data.size) := h
    have h2 : (s.data.toList.drop i).length ≤ k := by simp; omega
    rw [List.getD_eq_getElem?_getD, List.getElem?_eq_none h2]
    simp only [ByteArray.get!]
    rw [getElem!_neg s.data (i + k) h']
    rfl

theorem decode_dec (s : ByteArray) (i : Nat) : Utf8.decode s i = dec (s.data.toList.drop i) := by
  rw [decode_at, dec]
  have h0 := get_drop s i 0
  rw [Nat.add_zero] at h0
  have hl : (s.data.toList.drop i).length = s.size - i := by rw [List.length_drop, Array.length_toList]; rfl
  rw [h0, get_drop s i 1, get_drop s i 2, get_drop s i 3, hl]

theorem byte_lt (b : UInt8) : b.toNat < 256 := b.toNat_lt

theorem enc_lit (r : Int) : encodeRune r = (encodeRuneZ r).map fun x => x.toNat.toUInt8 := rfl

theorem u8_nat (n : Nat) (h : n < 256) : (n.toUInt8).toNat = n := Nat.mod_eq_of_lt h

theorem valid_iff (r : Int) : validRune r = true ↔ ((0 ≤ r ∧ r < 55296) ∨ (57343 < r ∧ r ≤ 1114111)) := by
  unfold validRune
  exact decide_eq_true_iff

theorem enc_length (r : Int) : 1 ≤ (encodeRune r).length ∧ (encodeRune r).length ≤ 4 := by
  have := encodeRuneZ_length r
  simpa [encodeRune] using this

/-- What is encoded is decoded. -/
theorem dec_enc (r : Int) (t : List UInt8) (h : validRune r = true) : dec (encodeRune r ++ t) = (r.toNat, (encodeRune r).length) := by
  rw [valid_iff] at h
  by_cases h1 : r ≤ 127
  · have e : encodeRune r = [r.toNat.toUInt8] := by rw [encodeRune, encodeRuneZ_one (by omega) h1]; rfl
    rw [e]
    have := u8_nat r.toNat (by omega)
    simp only [dec, decodeN, List.cons_append, List.nil_append, List.getD_cons_zero, this]
    rw [if_pos (by omega)]; rfl
  by_cases h2 : r ≤ 2047
  · have e : encodeRune r = [(192 + r / 64).toNat.toUInt8, (128 + r % 64).toNat.toUInt8] := by rw [encodeRune, encodeRuneZ_two (by omega) h2]; rfl
    rw [e]
    have e0 := u8_nat (192 + r / 64).toNat (by omega)
    have e1 := u8_nat (128 + r % 64).toNat (by omega)
    simp only [dec, decodeN, List.cons_append, List.nil_append, List.getD_cons_zero, List.getD_cons_succ, e0, e1, List.length_cons]
    rw [if_neg (by omega), if_pos (by omega), if_pos (by omega)]
    simp; omega
  by_cases h3 : r ≤ 65535
  · have e : encodeRune r = [(224 + r / 4096).toNat.toUInt8, (128 + r / 64 % 64).toNat.toUInt8, (128 + r % 64).toNat.toUInt8] := by rw [encodeRune, encodeRuneZ_three (by omega)]; rfl
    rw [e]
    have e0 := u8_nat (224 + r / 4096).toNat (by omega)
    have e1 := u8_nat (128 + r / 64 % 64).toNat (by omega)
    have e2 := u8_nat (128 + r % 64).toNat (by omega)
    simp only [dec, decodeN, List.cons_append, List.nil_append, List.getD_cons_zero, List.getD_cons_succ, e0, e1, e2, List.length_cons]
    rw [if_neg (by omega), if_neg (by omega), if_pos (by omega), if_pos (by omega)]
    simp; omega
  · have e : encodeRune r = [(240 + r / 262144).toNat.toUInt8, (128 + r / 4096 % 64).toNat.toUInt8, (128 + r / 64 % 64).toNat.toUInt8, (128 + r % 64).toNat.toUInt8] := by rw [encodeRune, encodeRuneZ_four (by omega) (by omega)]; rfl
    rw [e]
    have e0 := u8_nat (240 + r / 262144).toNat (by omega)
    have e1 := u8_nat (128 + r / 4096 % 64).toNat (by omega)
    have e2 := u8_nat (128 + r / 64 % 64).toNat (by omega)
    have e3 := u8_nat (128 + r % 64).toNat (by omega)
    simp only [dec, decodeN, List.cons_append, List.nil_append, List.getD_cons_zero, List.getD_cons_succ, e0, e1, e2, e3, List.length_cons]
    rw [if_neg (by omega), if_neg (by omega), if_neg (by omega), if_pos (by omega), if_pos (by omega)]
    simp; omega

theorem bad_enc (r : Int) (t : List UInt8) (h : validRune r = true) : bad (encodeRune r ++ t) = false := by
  unfold bad
  rw [dec_enc r t h]
  simp only [Prod.mk.injEq, decide_eq_false_iff_not, not_and]
  intro h1
  have : r = 65533 := by omega
  subst this
  decide

theorem take_of_getD (b : List UInt8) : ∀ n, n ≤ b.length → b.take n = (List.range n).map fun i => b.getD i 0
  | 0, _ => by simp
  | n + 1, h => by
    rw [List.take_add_one, take_of_getD b n (by omega), List.range_succ, List.map_append, List.getElem?_eq_getElem (by omega), List.map_singleton, List.getD_eq_getElem?_getD, List.getElem?_eq_getElem (by omega)]
    rfl

theorem u8_of (x : UInt8) (n : Int) (h : n = x.toNat) : n.toNat.toUInt8 = x := by
  subst h
  simp

theorem dec_le (b : List UInt8) : (dec b).1 ≤ 1114111 ∧ (dec b).2 ≤ 4 ∧ 1 ≤ (dec b).2 := by
  have h0 := byte_lt (b.getD 0 0); have h1 := byte_lt (b.getD 1 0); have h2 := byte_lt (b.getD 2 0); have h3 := byte_lt (b.getD 3 0)
  unfold dec decodeN
  repeat' split
  all_goals (simp only; omega)

/-- What is decoded is a code point, and its bytes are those that stand there. -/
theorem enc_dec (b : List UInt8) (hb : 0 < b.length) (h : bad b = false) : validRune (dec b).1 = true ∧ (encodeRune (dec b).1) = b.take (dec b).2 ∧ (dec b).2 ≤ b.length := by
  have h0 := byte_lt (b.getD 0 0); have h1 := byte_lt (b.getD 1 0); have h2 := byte_lt (b.getD 2 0); have h3 := byte_lt (b.getD 3 0)
  have hbad : dec b ≠ (65533, 1) := by simpa [bad] using h
  rw [valid_iff]
  obtain ⟨x0, e0⟩ : ∃ x, (b.getD 0 0).toNat = x := ⟨_, rfl⟩
  obtain ⟨x1, e1⟩ : ∃ x, (b.getD 1 0).toNat = x := ⟨_, rfl⟩
  obtain ⟨x2, e2⟩ : ∃ x, (b.getD 2 0).toNat = x := ⟨_, rfl⟩
  obtain ⟨x3, e3⟩ : ∃ x, (b.getD 3 0).toNat = x := ⟨_, rfl⟩
  have hd : dec b = decodeN b.length x0 x1 x2 x3 := by rw [dec, e0, e1, e2, e3]
  rw [hd] at hbad ⊢
  rw [e0] at h0; rw [e1] at h1; rw [e2] at h2; rw [e3] at h3
  unfold decodeN at hbad ⊢
  split
  · refine ⟨by simp only; omega, ?_, hb⟩
    rw [encodeRune, encodeRuneZ_one (by simp only; omega) (by simp only; omega), take_of_getD b _ (by simp only; omega)]
    simp only [List.map_cons, List.map_nil, List.range_succ, List.range_zero, List.nil_append]
    rw [u8_of (b.getD 0 0) _ (by omega)]
  split
  · split
    · refine ⟨by simp only; omega, ?_, by simp only; omega⟩
      rw [encodeRune, encodeRuneZ_two (by simp only; omega) (by simp only; omega), take_of_getD b _ (by simp only; omega)]
      simp only [List.map_cons, List.map_nil, List.range_succ, List.range_zero, List.nil_append, List.cons_append]
      rw [u8_of (b.getD 0 0) _ (by omega), u8_of (b.getD 1 0) _ (by omega)]
    · simp_all
  split
  · split
    · refine ⟨by simp only; omega, ?_, by simp only; omega⟩
      rw [encodeRune, encodeRuneZ_three (by simp only; omega), take_of_getD b _ (by simp only; omega)]
      simp only [List.map_cons, List.map_nil, List.range_succ, List.range_zero, List.nil_append, List.cons_append]
      rw [u8_of (b.getD 0 0) _ (by omega), u8_of (b.getD 1 0) _ (by omega), u8_of (b.getD 2 0) _ (by omega)]
    · simp_all
  split
  · split
    · refine ⟨by simp only; omega, ?_, by simp only; omega⟩
      rw [encodeRune, encodeRuneZ_four (by simp only; omega) (by simp only; omega), take_of_getD b _ (by simp only; omega)]
      simp only [List.map_cons, List.map_nil, List.range_succ, List.range_zero, List.nil_append, List.cons_append]
      rw [u8_of (b.getD 0 0) _ (by omega), u8_of (b.getD 1 0) _ (by omega), u8_of (b.getD 2 0) _ (by omega), u8_of (b.getD 3 0) _ (by omega)]
    · simp_all
  · simp_all

/-- how many bytes, by the number -/
theorem enc_len_of (r : Int) (h : validRune r = true) : ((encodeRune r).length : Int) = if r < 128 then 1 else if r < 2048 then 2 else if r < 65536 then 3 else 4 := by
  rw [valid_iff] at h
  by_cases h1 : r ≤ 127
  · rw [encodeRune, encodeRuneZ_one (by omega) h1, if_pos (by omega)]; rfl
  by_cases h2 : r ≤ 2047
  · rw [encodeRune, encodeRuneZ_two (by omega) h2, if_neg (by omega), if_pos (by omega)]; rfl
  by_cases h3 : r ≤ 65535
  · rw [encodeRune, encodeRuneZ_three (by omega), if_neg (by omega), if_neg (by omega), if_pos (by omega)]; rfl
  · rw [encodeRune, encodeRuneZ_four (by omega) (by omega), if_neg (by omega), if_neg (by omega), if_neg (by omega)]; rfl

theorem runeLen_of (r : Int) (h : validRune r = true) : runeLen r = (encodeRune r).length := by
  rw [enc_len_of r h]
  rw [valid_iff] at h
  unfold runeLen
  repeat' split
  all_goals omega

theorem width_of (b : List UInt8) (hb : 0 < b.length) (h : bad b = false) : ((dec b).2 : Int) = runeLen (dec b).1 := by
  obtain ⟨h1, h2, h3⟩ := enc_dec b hb h
  rw [runeLen_of _ h1, h2, List.length_take]
  omega

/-- Goes over the code points: them, the place behind them (or of the error), whether all is right. -/
def scan (s : List UInt8) : Nat → Nat → Pos → List Pt × Pos × Bool
  | 0, _, p => ([], p, true)
  | f + 1, i, p => if i < s.length then
      (if bad (s.drop i) then ([], p, false) else
        let r := scan s f (i + (dec (s.drop i)).2) (next p (dec (s.drop i)).1 (dec (s.drop i)).2)
        (⟨(dec (s.drop i)).1, p⟩ :: r.1, r.2)) else ([], p, true)

def all (s : List UInt8) : List Pt × Pos × Bool := scan s s.length 0 start

theorem scan_end (s : List UInt8) (f i : Nat) (p : Pos) (h : ¬ i < s.length) : scan s f i p = ([], p, true) := by
  cases f <;> simp [scan, h]
theorem scan_bad (s : List UInt8) (f i : Nat) (p : Pos) (h : i < s.length) (hb : bad (s.drop i) = true) : scan s (f + 1) i p = ([], p, false) := by
  simp [scan, h, hb]
theorem scan_good (s : List UInt8) (f i : Nat) (p : Pos) (h : i < s.length) (hb : bad (s.drop i) = false) :
    scan s (f + 1) i p = (⟨(dec (s.drop i)).1, p⟩ :: (scan s f (i + (dec (s.drop i)).2) (next p (dec (s.drop i)).1 (dec (s.drop i)).2)).1, (scan s f (i + (dec (s.drop i)).2) (next p (dec (s.drop i)).1 (dec (s.drop i)).2)).2) := by
  simp [scan, h, hb]

/-- what Points tells: the code points; the error's kind; its place -/
def pts (s : List UInt8) : List Pt := if 4000 < s.length then [] else if (all s).2.2 then (all s).1 else []
def eE (s : List UInt8) : Int := if 4000 < s.length then 3 else if (all s).2.2 then 0 else 90
def eP (s : List UInt8) : Pos := if 4000 < s.length then zero else if (all s).2.2 then zero else (all s).2.1
/-- the place behind the last one -/
def endP (s : List UInt8) : Pos := if 4000 < s.length then zero else if (all s).2.2 then (all s).2.1 else zero

end Go.Proofs.YtaojgcioljcpmaaGreatDoor.U
