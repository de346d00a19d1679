/- Contracts: the reader's number. -/
import Derived.Test.YtaojgcioljcpmaaGreatDoorLexE
import Derived.Lib.ParseIntBCases
import Derived.Lib.AtoiErrMem
namespace Go.Proofs.YtaojgcioljcpmaaGreatDoor
open Go.RowKit

def numFrom (a : Nat) (l : List U.Pt) : Nat := l.foldl (fun a x => 10 * a + (x.r - 48).toNat) a
theorem numFrom_ge (l : List U.Pt) : ∀ a, a ≤ numFrom a l := by
  induction l with
  | nil => intro a; exact Nat.le_refl _
  | cons x t ih => intro a; have := ih (10 * a + (x.r - 48).toNat); unfold numFrom at this ⊢; rw [List.foldl_cons]; omega
theorem enc_digit {r : Int} (h : 48 ≤ r ∧ r ≤ 57) : Lib.encodeRune r = [r.toNat.toUInt8] := by
  rw [U.enc_lit, Lib.encodeRuneZ_one (by omega) (by omega)]; rfl
theorem textOf_cons (x : U.Pt) (t : List U.Pt) : T.textOf (x :: t) = Lib.encodeRune x.r ++ T.textOf t := by simp [T.textOf]
theorem parseM_digits (l : List U.Pt) : ∀ (acc : Nat), acc ≤ 18446744073709551615 → (∀ x ∈ l, 48 ≤ x.r ∧ x.r ≤ 57) →
    Lib.parseUintM 18446744073709551615 acc (T.textOf l) = if numFrom acc l ≤ 18446744073709551615 then .ok (numFrom acc l) else .range := by
  induction l with
  | nil => intro acc h _; simp [T.textOf, Lib.parseUintM, numFrom, h]
  | cons x t ih =>
    intro acc h hd
    have hx := hd x (List.mem_cons_self ..)
    have hn : ((x.r.toNat).toUInt8).toNat = x.r.toNat := U.u8_nat _ (by omega)
    have hge := numFrom_ge t (10 * acc + (x.r - 48).toNat)
    have he : numFrom acc (x :: t) = numFrom (10 * acc + (x.r - 48).toNat) t := rfl
    have hv : acc * 10 + (x.r.toNat - 48) = 10 * acc + (x.r - 48).toNat := by omega
    rw [textOf_cons, enc_digit hx, List.singleton_append, he]
    simp only [Lib.parseUintM, hn, hv]
    rw [if_pos (by omega)]
    by_cases h1 : 1844674407370955162 ≤ acc
    · rw [if_pos h1, if_neg (by omega)]
    · rw [if_neg h1]
      by_cases h2 : 18446744073709551615 < 10 * acc + (x.r - 48).toNat
      · rw [if_pos h2, if_neg (by omega)]
      · rw [if_neg h2]
        exact ih _ (by omega) (fun y hy => hd y (List.mem_cons_of_mem _ hy))
theorem parse_digits (l : List U.Pt) (hne : l ≠ []) (hd : ∀ x ∈ l, 48 ≤ x.r ∧ x.r ≤ 57) :
    Lib.parseIntB 64 (T.textOf l) = if T.numOf l ≤ 9223372036854775807 then .ok (T.numOf l : Int) else .range := by
  cases l with
  | nil => exact absurd rfl hne
  | cons x t =>
    have hx := hd x (List.mem_cons_self ..)
    have hn : ((x.r.toNat).toUInt8).toNat = x.r.toNat := U.u8_nat _ (by omega)
    have hp := parseM_digits (x :: t) 0 (by omega) hd
    rw [textOf_cons, enc_digit hx, List.singleton_append] at hp ⊢
    rw [Lib.parseIntB_plain 64 _ _ (by omega) (by omega)]
    have hu : Lib.parseUintB 64 ((x.r.toNat).toUInt8 :: T.textOf t) = if numFrom 0 (x :: t) ≤ 18446744073709551615 then .ok (numFrom 0 (x :: t)) else .range := by
      rw [← hp]; rfl
    rw [hu]
    have he : T.numOf (x :: t) = numFrom 0 (x :: t) := rfl
    rw [he]
    by_cases h1 : numFrom 0 (x :: t) ≤ 18446744073709551615
    · rw [if_pos h1]
      by_cases h2 : numFrom 0 (x :: t) ≤ 9223372036854775807
      · rw [if_pos h2]; simp only [Lib.signlessC]; rw [if_neg (by omega)]
      · rw [if_neg h2]; simp only [Lib.signlessC]; rw [if_pos (by omega)]
    · rw [if_neg h1, if_neg (by omega)]; rfl

theorem parse_ok (l : List U.Pt) (hne : l ≠ []) (hd : ∀ x ∈ l, 48 ≤ x.r ∧ x.r ≤ 57) (hl : l.length ≤ 20000) (w : World) (hv : T.numOf l ≤ 9223372036854775807) :
    Calls Tryz.prog 81 #[.string ⟨(T.textOf l).toArray⟩, .int .i64 10, .int .i64 64] w fun e w' => e = .returned (.tuple #[.int .i64 (T.numOf l), .nilIface]) ∧ Below w.heap.size w w' := by
  have hlen := textOf_len l
  have hp := parse_digits l hne hd
  rw [if_pos hv] at hp
  refine (Tryz.strconv_ParseInt_10_at64_ok ⟨(T.textOf l).toArray⟩ (by show (T.textOf l).toArray.size ≤ _; rw [List.size_toArray]; omega) _ hp w).mono ?_
  rintro e w' ⟨rfl, rfl | ⟨t, rfl⟩⟩
  · exact ⟨rfl, Below.refl _ _⟩
  · exact ⟨rfl, Lib.bytesWorld_below _ _ _⟩
theorem parse_range (G : Nat) (l : List U.Pt) (hne : l ≠ []) (hd : ∀ x ∈ l, 48 ≤ x.r ∧ x.r ≤ 57) (hl : l.length ≤ 20000) (w : World) (hT : Tabs G w) (hv : 9223372036854775807 < T.numOf l) :
    Calls Tryz.prog 81 #[.string ⟨(T.textOf l).toArray⟩, .int .i64 10, .int .i64 64] w fun e w' => ∃ v t q, e = .returned (.tuple #[.int .i64 v, .iface t q]) ∧ Below w.heap.size w w' := by
  have hlen := textOf_len l
  have hp := parse_digits l hne hd
  rw [if_neg (by omega)] at hp
  obtain ⟨tp, p, hvar⟩ := hT.now.eran
  refine (Tryz.strconv_ParseInt_10_at64_range_var ⟨(T.textOf l).toArray⟩ (by show (T.textOf l).toArray.size ≤ _; rw [List.size_toArray]; omega) hp tp p w hvar).mono ?_
  rintro e w' ⟨N, rfl, _, _, hb⟩
  exact ⟨_, _, _, rfl, hb⟩

theorem count_all (ks : List Int) : ∀ (l : List U.Pt), ∀ x ∈ l.take (T.count ks l), T.isIn ks x = true
  | [], x, hx => by simp [T.count] at hx
  | y :: t, x, hx => by
    unfold T.count at hx
    by_cases h : T.isIn ks y = true
    · rw [if_pos h, List.take_succ_cons] at hx
      rcases List.mem_cons.1 hx with rfl | hx
      · exact h
      · exact count_all ks t x hx
    · rw [if_neg h] at hx; simp at hx
theorem kind_digit {r : Int} (h : T.kindR r = 2) : 48 ≤ r ∧ r ≤ 57 := by
  unfold T.kindR at h
  revert h
  repeat' split
  all_goals (intro h; omega)
end Go.Proofs.YtaojgcioljcpmaaGreatDoor
