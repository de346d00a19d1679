/- Plain facts about tokens: what is told of code points. No program is in sight. -/
import Derived.Test.YtaojgcioljcpmaaGreatDoorUtfPlain
namespace Go.Proofs.YtaojgcioljcpmaaGreatDoor.T
open U Go.Lib

/-- a token: its kind, its text's bytes, its number, its place -/
structure Tok where
  k : Int
  t : List UInt8
  n : Int
  p : Pos

def kindR (r : Int) : Int :=
  if r = 32 ∨ r = 9 ∨ r = 10 ∨ r = 13 then 1 else if 48 ≤ r ∧ r ≤ 57 then 2 else if 97 ≤ r ∧ r ≤ 122 then 3
  else if 65 ≤ r ∧ r ≤ 90 then 4 else if r = 95 ∨ r = 39 then 5 else 0

theorem kindR_range (r : Int) : 0 ≤ kindR r ∧ kindR r ≤ 5 := by unfold kindR; repeat' split <;> omega

def words : List (List UInt8) := [[108, 101, 116], [114, 101, 99], [105, 110], [99, 97, 115, 101], [111, 102], [100, 97, 116, 97]]
def prims : List (List UInt8) := [[111, 112, 101, 110], [114, 101, 97, 100], [119, 114, 105, 116, 101], [99, 108, 111, 115, 101], [97, 114, 114, 97, 121], [103, 101, 116], [115, 101, 116], [115, 105, 122, 101], [102, 97, 105, 108], [108, 101, 110]]
def signs : List (List UInt8) := [[92], [45, 62], [45, 49, 62], [45, 63, 62], [45, 42, 62], [61], [61, 61], [59], [123], [125], [40], [41], [124], [60], [43, 43], [43], [45], [42], [47], [37], [95], [63]]

/-- the text of code points -/
def textOf (l : List Pt) : List UInt8 := l.flatMap fun x => encodeRune x.r
theorem textOf_snoc (l : List Pt) (x : Pt) : textOf (l ++ [x]) = textOf l ++ encodeRune x.r := by simp [textOf]

/-- may a code point of these kinds stand here? -/
def isIn (ks : List Int) (x : Pt) : Bool := ks.contains (kindR x.r)
/-- how many code points are of some kinds -/
def count (ks : List Int) : List Pt → Nat
  | [] => 0
  | x :: t => if isIn ks x then count ks t + 1 else 0

theorem count_le (ks : List Int) : ∀ l, count ks l ≤ l.length
  | [] => Nat.le_refl _
  | x :: t => by
    unfold count
    split
    · have := count_le ks t; simp; omega
    · simp

/-- the code point that stands so far ahead, -1 behind the end -/
def peek (l : List Pt) (n : Nat) : Int := match l[n]? with | some x => x.r | none => -1

/-- behind blanks and remarks (true: within a remark) -/
def skip : Bool → List Pt → List Pt
  | _, [] => []
  | false, x :: t => if kindR x.r = 1 then skip false t else if x.r = 45 ∧ peek t 0 = 45 then skip true t else x :: t
  | true, x :: t => if x.r = 10 then skip false t else skip true t

theorem skip_le : ∀ b l, (skip b l).length ≤ l.length
  | _, [] => by simp [skip]
  | false, x :: t => by
    unfold skip
    have h1 := skip_le false t
    have h2 := skip_le true t
    split
    · simp; omega
    · split
      · simp; omega
      · simp
  | true, x :: t => by
    unfold skip
    have h1 := skip_le false t
    have h2 := skip_le true t
    split <;> (simp; omega)

/-- a token and how many code points it has; or an error and its place -/
inductive Res where
  | ok (t : Tok) (n : Nat)
  | bad (e : Int) (p : Pos)

def headP (l : List Pt) : Pos := match l with | x :: _ => x.p | [] => zero
def at' (l : List Pt) (i : Nat) : Pos := headP (l.drop i)

def word (l : List Pt) : Res :=
  let n := count [2, 3, 4, 5] l
  let tx := textOf (l.take n)
  if words.contains tx then .ok ⟨5, tx, 0, headP l⟩ n
  else if prims.contains tx then .ok ⟨6, tx, 0, headP l⟩ n
  else if 24 < tx.length then .bad 3 (headP l)
  else .ok ⟨if kindR (peek l 0) = 4 then 2 else 1, tx, 0, headP l⟩ n

def numOf (l : List Pt) : Nat := l.foldl (fun a x => 10 * a + (x.r - 48).toNat) 0

def number (l : List Pt) : Res :=
  if peek l 0 = 48 ∧ kindR (peek l 1) = 2 then .bad 100 (headP l)
  else
    let n := count [2] l
    if 1099511627776 < numOf (l.take n) then .bad 101 (headP l) else .ok ⟨3, [], numOf (l.take n), headP l⟩ n

def what (r : Int) : Int := if r = 110 then 10 else if r = 116 then 9 else if r = 34 ∨ r = 92 then r else -1

/-- a string: behind the first quote; acc: what it has till now; n: how many code points were taken -/
def quote (from' : Pos) : List Pt → List UInt8 → Nat → Res
  | [], _, _ => .bad 102 from'
  | x :: t, acc, n =>
    if x.r = 10 then .bad 102 from'
    else if x.r = 34 then .ok ⟨4, acc, 0, from'⟩ (n + 1)
    else if x.r = 92 then
      match t with
      | [] => .bad 100 x.p
      | y :: t' => if what y.r < 0 then .bad 100 x.p else quote from' t' (acc ++ encodeRune (what y.r)) (n + 2)
    else quote from' t (acc ++ encodeRune x.r) (n + 1)

def quoted (l : List Pt) : Res := quote (headP l) l.tail [] 1

def better (l : List Pt) (best s : List UInt8) : List UInt8 :=
  if best.length < s.length ∧ s.length ≤ l.length ∧ textOf (l.take s.length) = s then s else best
def bestOf (l : List Pt) (ss : List (List UInt8)) : List UInt8 := ss.foldl (better l) []

def sign (l : List Pt) : Res :=
  if bestOf l signs = [] then .bad 100 (headP l) else .ok ⟨5, bestOf l signs, 0, headP l⟩ (bestOf l signs).length

def token (l : List Pt) : Res :=
  let k := kindR (peek l 0)
  if k = 3 ∨ k = 4 then word l else if k = 2 then number l else if peek l 0 = 34 then quoted l else sign l

def toks : Nat → List Pt → List Tok × Int × Pos
  | 0, _ => ([], 0, zero)
  | f + 1, l =>
    match skip false l with
    | [] => ([], 0, zero)
    | x :: t =>
      match token (x :: t) with
      | .bad e p => ([], e, p)
      | .ok k n => let r := toks f ((x :: t).drop n); if r.2.1 = 0 then (k :: r.1, 0, zero) else ([], r.2)

/-- what Tokens tells -/
def tokens (s : List UInt8) : List Tok × Int × Pos := if eE s = 0 then toks ((pts s).length + 1) (pts s) else ([], eE s, eP s)

/-- a number in digits -/
def digits : Nat → Nat → List UInt8
  | 0, _ => []
  | f + 1, n => if n < 10 then [(48 + n).toUInt8] else digits f (n / 10) ++ [(48 + n % 10).toUInt8]

def esc (b : UInt8) : List UInt8 := if b = 92 then [92, 92] else if b = 34 then [92, 34] else if b = 10 then [92, 110] else if b = 9 then [92, 116] else [b]

/-- are bytes a text? -/
def wholeF : Nat → List UInt8 → Bool
  | 0, l => l.isEmpty
  | f + 1, l => if l.isEmpty then true else if bad l then false else wholeF f (l.drop (dec l).2)
def whole (l : List UInt8) : Bool := wholeF l.length l

end Go.Proofs.YtaojgcioljcpmaaGreatDoor.T
