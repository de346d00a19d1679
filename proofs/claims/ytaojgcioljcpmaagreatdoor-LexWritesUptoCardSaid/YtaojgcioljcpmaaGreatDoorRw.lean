/- Contracts of the reference's leaves (usufructref10): small, great, digit, inWord, has. Contract of the reference's Name. The reference's texts: a text read code point by code point; Digits. The reference's Digits: the numeral of a number that is not below 0. The reference's Put: a token as it is written. The reference's May: may a token be? The reference's Write tells what lex.Write tells; the walk of LexWrites. -/
import Derived.Test.YtaojgcioljcpmaaGreatDoorGrt
import Derived.Test.YtaojgcioljcpmaaGreatDoorLexM
import Derived.Test.YtaojgcioljcpmaaGreatDoorUtfE
import Derived.Test.YtaojgcioljcpmaaGreatDoorKit
import Derived.Test.YtaojgcioljcpmaaGreatDoorSeg
import Derived.Test.YtaojgcioljcpmaaGreatDoorProg
import Derived.Deep.RegionHeld3
import Derived.Lib.ItoaNum
import Derived.Test.YtaojgcioljcpmaaGreatDoorLexT
import Derived.Laws.AppendOwn
import Derived.Lib.UnsafeStr
namespace Go.Proofs.YtaojgcioljcpmaaGreatDoor
open Go.RowKit

theorem rsmall_any (b : UInt8) (w : World) : Calls Tryz.prog 69 #[.int .i32 b.toNat] w fun e w' => e = .returned (.bool (T.small b)) ∧ w' = w := by
  go_enter Tryz.func69, Tryz.ntmps69
  by_cases h1 : 97 ≤ b.toNat
  · have h1' : (97 : Int) ≤ (b.toNat : Int) := by omega
    by_cases h2 : b.toNat ≤ 122
    · have h2' : (b.toNat : Int) ≤ 122 := by omega
      go_wp2
      go_ret
      exact ⟨by simp [T.small, h1, h2], rfl⟩
    · have h2' : ¬ (b.toNat : Int) ≤ 122 := by omega
      go_wp2
      go_ret
      exact ⟨by simp [T.small, h2], rfl⟩
  · have h1' : ¬ (97 : Int) ≤ (b.toNat : Int) := by omega
    go_wp2
    go_ret
    exact ⟨by simp [T.small, h1], rfl⟩
theorem rgreat_any (b : UInt8) (w : World) : Calls Tryz.prog 68 #[.int .i32 b.toNat] w fun e w' => e = .returned (.bool (T.great b)) ∧ w' = w := by
  go_enter Tryz.func68, Tryz.ntmps68
  by_cases h1 : 65 ≤ b.toNat
  · have h1' : (65 : Int) ≤ (b.toNat : Int) := by omega
    by_cases h2 : b.toNat ≤ 90
    · have h2' : (b.toNat : Int) ≤ 90 := by omega
      go_wp2
      go_ret
      exact ⟨by simp [T.great, h1, h2], rfl⟩
    · have h2' : ¬ (b.toNat : Int) ≤ 90 := by omega
      go_wp2
      go_ret
      exact ⟨by simp [T.great, h2], rfl⟩
  · have h1' : ¬ (65 : Int) ≤ (b.toNat : Int) := by omega
    go_wp2
    go_ret
    exact ⟨by simp [T.great, h1], rfl⟩
theorem rdigit_any (b : UInt8) (w : World) : Calls Tryz.prog 94 #[.int .i32 b.toNat] w fun e w' => e = .returned (.bool (decide (48 ≤ b.toNat ∧ b.toNat ≤ 57))) ∧ w' = w := by
  go_enter Tryz.func94, Tryz.ntmps94
  by_cases h1 : 48 ≤ b.toNat
  · have h1' : (48 : Int) ≤ (b.toNat : Int) := by omega
    by_cases h2 : b.toNat ≤ 57
    · have h2' : (b.toNat : Int) ≤ 57 := by omega
      go_wp2
      go_ret
      exact ⟨by simp [h1, h2], rfl⟩
    · have h2' : ¬ (b.toNat : Int) ≤ 57 := by omega
      go_wp2
      go_ret
      exact ⟨rfl, rfl⟩
  · have h1' : ¬ (48 : Int) ≤ (b.toNat : Int) := by omega
    go_wp2
    go_ret
    exact ⟨rfl, rfl⟩
theorem rinW_any (b : UInt8) (w : World) : Calls Tryz.prog 70 #[.int .i32 b.toNat] w fun e w' => e = .returned (.bool (T.inW b)) ∧ w' = w := by
  have hd := rdigit_any b
  have hg := rgreat_any b
  have hs := rsmall_any b
  have hin : T.inW b = (decide (48 ≤ b.toNat ∧ b.toNat ≤ 57) || T.small b || T.great b || decide (b.toNat = 95) || decide (b.toNat = 39)) := rfl
  obtain ⟨D, hD⟩ : ∃ D, decide (48 ≤ b.toNat ∧ b.toNat ≤ 57) = D := ⟨_, rfl⟩
  obtain ⟨R, hR⟩ : ∃ D, T.great b = D := ⟨_, rfl⟩
  obtain ⟨S, hS⟩ : ∃ D, T.small b = D := ⟨_, rfl⟩
  rw [hD] at hd hin
  rw [hR] at hg hin
  rw [hS] at hs hin
  rw [hin]
  have HD := Lib.hid hd
  have HG := Lib.hid hg
  have HS := Lib.hid hs
  clear hd hg hs hin hD hR hS
  go_enter Tryz.func70, Tryz.ntmps70
  go_wp2_with fail
  refine (HD.out _).mono ?_
  rintro _ _ ⟨rfl, rfl⟩
  cases D with
  | true =>
    go_wp2
    go_ret
    exact ⟨rfl, rfl⟩
  | false =>
    go_wp2_with fail
    refine (HS.out _).mono ?_
    rintro _ _ ⟨rfl, rfl⟩
    cases S with
    | true =>
      go_wp2
      go_ret
      exact ⟨rfl, rfl⟩
    | false =>
      go_wp2_with fail
      refine (HG.out _).mono ?_
      rintro _ _ ⟨rfl, rfl⟩
      cases R with
      | true =>
        go_wp2
        go_ret
        exact ⟨rfl, rfl⟩
      | false =>
        by_cases h1 : b.toNat = 95
        · have h1' : ((b.toNat : Int) == 95) = true := by rw [beq_iff_eq]; omega
          go_wp2
          go_ret
          exact ⟨by simp [h1], rfl⟩
        · have h1' : ((b.toNat : Int) == 95) = false := by rw [beq_eq_false_iff_ne]; omega
          by_cases h2 : b.toNat = 39
          · have h2' : ((b.toNat : Int) == 39) = true := by rw [beq_iff_eq]; omega
            go_wp2
            go_ret
            exact ⟨by simp [h2], rfl⟩
          · have h2' : ((b.toNat : Int) == 39) = false := by rw [beq_eq_false_iff_ne]; omega
            go_wp2
            go_ret
            exact ⟨by simp [h1, h2], rfl⟩
theorem rhas_any (A n : Nat) (l : List (List UInt8)) (s : List UInt8) (w : World) (h : StrAt w A l) (hn : l.length = n) (hnn : n ≤ 1000000) :
    Calls Tryz.prog 46 #[.slice (some ⟨A, 0, none⟩) n n, .string ⟨s.toArray⟩] w fun e w' => e = .returned (.bool (l.contains s)) ∧ w' = w := by
  have HA := Lib.hid h
  have HN := Lib.hid hn
  obtain ⟨R, hR⟩ : ∃ R, l.contains s = R := ⟨_, rfl⟩
  rw [hR]
  have HR := Lib.hid hR
  clear h hn hR
  go_enter Tryz.func46, Tryz.ntmps46
  go_wp2
  go_loopw [5] (fun u wr => ∃ i : Nat, u = .int .i64 i ∧ i ≤ n ∧ (l.take i).contains s = false ∧ wr = w) (fun u _ => n - (intOf u).toNat)
  case atStart => exact ⟨0, rfl, Nat.zero_le _, rfl, rfl⟩
  case round =>
    obtain ⟨i, rfl, hi, hno, rfl⟩ := hrel
    by_cases hlt : i < n
    · have hil : i < l.length := by rw [HN.out]; exact hlt
      have hc := HA.out.2 i (l[i]'hil) (List.getElem?_eq_getElem hil)
      obtain ⟨x, hx⟩ : ∃ x, l[i]'hil = x := ⟨_, rfl⟩
      rw [hx] at hc
      have hlt' : (i : Int) < (n : Int) := by omega
      by_cases he : x = s
      · have hmem : l.contains s = true := by
          rw [List.contains_iff_mem]
          rw [← he, ← hx]
          exact List.getElem_mem hil
        have hbe : (x == s) = true := by rw [he]; exact beq_self_eq_true s
        have hRt : R = true := HR.out.symm.trans hmem
        subst hRt
        clear hno he hmem
        go_wp2
        go_ret
        exact ⟨rfl, rfl⟩
      · have hbe : (x == s) = false := by rw [beq_eq_false_iff_ne]; exact he
        have hno2 : (l.take (i + 1)).contains s = false := by
          rw [List.take_succ_eq_append_getElem hil, hx]
          rw [Bool.eq_false_iff] at hno ⊢
          intro h9
          rw [List.contains_iff_mem, List.mem_append, List.mem_singleton] at h9
          rcases h9 with h9 | h9
          · exact hno (List.contains_iff_mem.2 h9)
          · exact he h9.symm
        clear hno
        go_wp2
        exact ⟨⟨i + 1, by rw [Int.natCast_add]; rfl, by omega, hno2, trivial⟩, by simp [intOf]; omega⟩
    · have hin : i = n := by omega
      have hall : l.contains s = false := by
        rw [List.take_of_length_le (by rw [HN.out]; omega)] at hno
        exact hno
      have hlt' : ¬ (i : Int) < (n : Int) := by omega
      have hRf : R = false := HR.out.symm.trans hall
      subst hRf
      clear hno hin hall
      go_wp2
      go_ret
      exact ⟨rfl, rfl⟩
end Go.Proofs.YtaojgcioljcpmaaGreatDoor
namespace Go.Proofs.YtaojgcioljcpmaaGreatDoor
open Go.RowKit

theorem w32_u8 (b : UInt8) : wrap32 (b.toNat : Int) = b.toNat := by
  have := b.toNat_lt
  exact IntWalk.wrap32_in _ (by omega)
theorem take_all (l : List UInt8) (i : Nat) (h : i < l.length) : (l.take (i + 1)).all T.inW = ((l.take i).all T.inW && T.inW (l[i]'h)) := by
  rw [List.take_succ_eq_append_getElem h, List.all_append]
  simp
theorem all_take_of (l : List UInt8) (i : Nat) (h : (l.take i).all T.inW = false) : l.all T.inW = false := by
  rw [Bool.eq_false_iff] at h ⊢
  intro h9
  refine h ?_
  rw [List.all_eq_true] at h9 ⊢
  exact fun x hx => h9 x (List.mem_of_mem_take hx)
set_option maxRecDepth 20000 in
set_option maxHeartbeats 4000000 in
theorem rname_any (s : List UInt8) (big : Bool) (w : World) :
    Calls Tryz.prog 44 #[.string ⟨s.toArray⟩, .bool big] w fun e w' => e = .returned (.bool (T.name s big)) ∧ Below w.heap.size w w' := by
  have hname : T.name s big = (decide (s.length ≤ 24) && T.firstIs s big && s.all T.inW && !T.words.contains s && !T.prims.contains s) := rfl
  obtain ⟨N, hN⟩ : ∃ N, T.name s big = N := ⟨_, rfl⟩
  rw [hN] at hname ⊢
  have HNM := Lib.hid hname
  clear hname hN
  go_enter Tryz.func44, Tryz.ntmps44
  cases s with
  | nil =>
    have hn : N = false := HNM.out.trans (by simp [T.firstIs])
    subst hn
    go_wp2
    go_ret
    exact ⟨rfl, Below.refl _ _⟩
  | cons b u =>
    by_cases h24 : 24 < u.length + 1
    · have hn : N = false := by rw [HNM.out, show decide ((b :: u).length ≤ 24) = false from decide_eq_false (by rw [List.length_cons]; omega)]; rfl
      subst hn
      have h24' : (24 : Int) < (u.length : Int) + 1 := by omega
      go_wp2
      go_ret
      exact ⟨rfl, Below.refl _ _⟩
    · have h24' : ¬ (24 : Int) < (u.length : Int) + 1 := by omega
      have hw0 := w32_u8 b
      have hx0 : ∀ h, ((⟨(b :: u).toArray⟩ : ByteArray)[0]'h).toNat = b.toNat := fun _ => rfl
      have hd : decide ((b :: u).length ≤ 24) = true := decide_eq_true (by rw [List.length_cons]; omega)
      have HD := Lib.hid hd
      clear hd
      go_wp2_with fail
      refine (rgreat_any b _).mono ?_
      rintro _ w8 ⟨rfl, rfl⟩
      cases big with
      | true =>
        cases hG : T.great b with
        | false =>
          have hn : N = false := by rw [HNM.out, HD.out]; show (true && T.great b && _ && _ && _) = false; rw [hG]; rfl
          subst hn
          go_wp2
          go_ret
          exact ⟨rfl, Below.refl _ _⟩
        | true =>
          have HN2 := Lib.hid (show N = ((b :: u).all T.inW && !T.words.contains (b :: u) && !T.prims.contains (b :: u)) by rw [HNM.out, HD.out]; show (true && T.great b && _ && _ && _) = _; rw [hG]; simp only [Bool.true_and])
          clear hG HD
          clear HNM
          have hl24 : (b :: u).length ≤ 24 := by rw [List.length_cons]; omega
          generalize hs : b :: u = s at *
          clear hs
          go_wp2
          go_loopw [5] (fun x wr => ∃ i : Nat, x = .int .i64 i ∧ i ≤ s.length ∧ (s.take i).all T.inW = true ∧ wr = w8) (fun x _ => s.length - (intOf x).toNat)
          case atStart => exact ⟨0, rfl, Nat.zero_le _, rfl, rfl⟩
          case round =>
            obtain ⟨i, rfl, hi, hal, rfl⟩ := hrel
            have HAL := Lib.hid hal
            clear hal
            by_cases hlt : i < s.length
            · have hxi : ∀ h, ((⟨s.toArray⟩ : ByteArray)[i]'h).toNat = (s[i]'hlt).toNat := fun _ => rfl
              have hta := take_all s i hlt
              obtain ⟨y, hy⟩ : ∃ y, s[i]'hlt = y := ⟨_, rfl⟩
              rw [hy] at hxi hta
              have hwy := w32_u8 y
              have HTA := Lib.hid hta
              have hlt' : (i : Int) < (s.length : Int) := by omega
              clear hta hy
              go_wp2_with fail
              refine (rinW_any y _).mono ?_
              rintro _ _ ⟨rfl, rfl⟩
              cases hW : T.inW y with
              | false =>
                have hn : N = false := by rw [HN2.out, all_take_of s (i + 1) (by rw [HTA.out, hW, Bool.and_false])]; rfl
                subst hn
                go_wp2
                go_ret
                exact ⟨rfl, Below.refl _ _⟩
              | true =>
                have hal2 : (s.take (i + 1)).all T.inW = true := by rw [HTA.out, hW, HAL.out]; rfl
                have HAL2 := Lib.hid hal2
                clear hal2
                go_wp2
                go_roundw
                case rel => exact ⟨_, _, _, _, _, _, _, _, _, _, _, _, _, _, ⟨i + 1, by rw [Int.natCast_add]; rfl, hlt, HAL2.out, trivial⟩, rfl⟩
                case measure => simp [intOf]; omega
            · have hlt' : ¬ (i : Int) < (s.length : Int) := by omega
              have hall : s.all T.inW = true := by
                have := HAL.out
                rw [List.take_of_length_le (by omega)] at this
                exact this
              have hn3 : N = (!T.words.contains s && !T.prims.contains s) := by rw [HN2.out, hall, Bool.true_and]
              have HN3 := Lib.hid hn3
              clear hall hn3
              go_wp2_with fail
              refine (rwords_any _).mono ?_
              rintro _ w2 ⟨A, rfl, hA, hb2⟩
              have hh := rhas_any A 6 T.words s w2 hA rfl (by omega)
              obtain ⟨C, hC⟩ : ∃ C, T.words.contains s = C := ⟨_, rfl⟩
              rw [hC] at hh
              have HC := Lib.hid hC
              have HH := Lib.hid hh
              have HB2 := Lib.hid hb2
              clear hC hh hb2 hA
              go_wp2_with fail
              refine HH.out.mono ?_
              rintro _ _ ⟨rfl, rfl⟩
              cases C with
              | true =>
                have hn : N = false := by rw [HN3.out, HC.out]; rfl
                subst hn
                go_wp2
                go_ret
                exact ⟨rfl, HB2.out⟩
              | false =>
                go_wp2_with fail
                refine (rprims_any _).mono ?_
                rintro _ w3 ⟨A2, rfl, hA2, hb3⟩
                have hh := rhas_any A2 10 T.prims s w3 hA2 rfl (by omega)
                obtain ⟨C2, hC2⟩ : ∃ C, T.prims.contains s = C := ⟨_, rfl⟩
                rw [hC2] at hh
                have hn : N = !C2 := by rw [HN3.out, HC.out, hC2]; rfl
                subst hn
                have HH2 := Lib.hid hh
                have HB3 := Lib.hid (below_call HB2.out hb3)
                clear hC2 hh hb3 hA2
                go_wp2_with fail
                refine HH2.out.mono ?_
                rintro _ _ ⟨rfl, rfl⟩
                go_wp2
                go_ret
                exact ⟨rfl, HB3.out⟩
      | false =>
        cases hG : T.great b with
        | true =>
          have hs : T.small b = false := by
            unfold T.great at hG
            unfold T.small
            have := of_decide_eq_true hG
            exact decide_eq_false (by omega)
          have hn : N = false := by rw [HNM.out, HD.out]; show (true && T.small b && _ && _ && _) = false; rw [hs]; rfl
          subst hn
          go_wp2
          go_ret
          exact ⟨rfl, Below.refl _ _⟩
        | false =>
          go_wp2_with fail
          refine (rsmall_any b _).mono ?_
          rintro _ w8 ⟨rfl, rfl⟩
          cases hS : T.small b with
          | false =>
            have hn : N = false := by rw [HNM.out, HD.out]; show (true && T.small b && _ && _ && _) = false; rw [hS]; rfl
            subst hn
            go_wp2
            go_ret
            exact ⟨rfl, Below.refl _ _⟩
          | true =>
            have HN2 := Lib.hid (show N = ((b :: u).all T.inW && !T.words.contains (b :: u) && !T.prims.contains (b :: u)) by rw [HNM.out, HD.out]; show (true && T.small b && _ && _ && _) = _; rw [hS]; simp only [Bool.true_and])
            clear hG hS HD
            clear HNM
            have hl24 : (b :: u).length ≤ 24 := by rw [List.length_cons]; omega
            generalize hs : b :: u = s at *
            clear hs
            go_wp2
            go_loopw [5] (fun x wr => ∃ i : Nat, x = .int .i64 i ∧ i ≤ s.length ∧ (s.take i).all T.inW = true ∧ wr = w8) (fun x _ => s.length - (intOf x).toNat)
            case atStart => exact ⟨0, rfl, Nat.zero_le _, rfl, rfl⟩
            case round =>
              obtain ⟨i, rfl, hi, hal, rfl⟩ := hrel
              have HAL := Lib.hid hal
              clear hal
              by_cases hlt : i < s.length
              · have hxi : ∀ h, ((⟨s.toArray⟩ : ByteArray)[i]'h).toNat = (s[i]'hlt).toNat := fun _ => rfl
                have hta := take_all s i hlt
                obtain ⟨y, hy⟩ : ∃ y, s[i]'hlt = y := ⟨_, rfl⟩
                rw [hy] at hxi hta
                have hwy := w32_u8 y
                have HTA := Lib.hid hta
                have hlt' : (i : Int) < (s.length : Int) := by omega
                clear hta hy
                go_wp2_with fail
                refine (rinW_any y _).mono ?_
                rintro _ _ ⟨rfl, rfl⟩
                cases hW : T.inW y with
                | false =>
                  have hn : N = false := by rw [HN2.out, all_take_of s (i + 1) (by rw [HTA.out, hW, Bool.and_false])]; rfl
                  subst hn
                  go_wp2
                  go_ret
                  exact ⟨rfl, Below.refl _ _⟩
                | true =>
                  have hal2 : (s.take (i + 1)).all T.inW = true := by rw [HTA.out, hW, HAL.out]; rfl
                  have HAL2 := Lib.hid hal2
                  clear hal2
                  go_wp2
                  go_roundw
                  case rel => exact ⟨_, _, _, _, _, _, _, _, _, _, _, _, _, _, ⟨i + 1, by rw [Int.natCast_add]; rfl, hlt, HAL2.out, trivial⟩, rfl⟩
                  case measure => simp [intOf]; omega
              · have hlt' : ¬ (i : Int) < (s.length : Int) := by omega
                have hall : s.all T.inW = true := by
                  have := HAL.out
                  rw [List.take_of_length_le (by omega)] at this
                  exact this
                have hn3 : N = (!T.words.contains s && !T.prims.contains s) := by rw [HN2.out, hall, Bool.true_and]
                have HN3 := Lib.hid hn3
                clear hall hn3
                go_wp2_with fail
                refine (rwords_any _).mono ?_
                rintro _ w2 ⟨A, rfl, hA, hb2⟩
                have hh := rhas_any A 6 T.words s w2 hA rfl (by omega)
                obtain ⟨C, hC⟩ : ∃ C, T.words.contains s = C := ⟨_, rfl⟩
                rw [hC] at hh
                have HC := Lib.hid hC
                have HH := Lib.hid hh
                have HB2 := Lib.hid hb2
                clear hC hh hb2 hA
                go_wp2_with fail
                refine HH.out.mono ?_
                rintro _ _ ⟨rfl, rfl⟩
                cases C with
                | true =>
                  have hn : N = false := by rw [HN3.out, HC.out]; rfl
                  subst hn
                  go_wp2
                  go_ret
                  exact ⟨rfl, HB2.out⟩
                | false =>
                  go_wp2_with fail
                  refine (rprims_any _).mono ?_
                  rintro _ w3 ⟨A2, rfl, hA2, hb3⟩
                  have hh := rhas_any A2 10 T.prims s w3 hA2 rfl (by omega)
                  obtain ⟨C2, hC2⟩ : ∃ C, T.prims.contains s = C := ⟨_, rfl⟩
                  rw [hC2] at hh
                  have hn : N = !C2 := by rw [HN3.out, HC.out, hC2]; rfl
                  subst hn
                  have HH2 := Lib.hid hh
                  have HB3 := Lib.hid (below_call HB2.out hb3)
                  clear hC2 hh hb3 hA2
                  go_wp2_with fail
                  refine HH2.out.mono ?_
                  rintro _ _ ⟨rfl, rfl⟩
                  go_wp2
                  go_ret
                  exact ⟨rfl, HB3.out⟩
end Go.Proofs.YtaojgcioljcpmaaGreatDoor
namespace Go.Proofs.YtaojgcioljcpmaaGreatDoor
open Go.RowKit

theorem rw_wholeF_fuel : ∀ (f g : Nat) (l : List UInt8), l.length ≤ f → l.length ≤ g → T.wholeF f l = T.wholeF g l
  | 0, 0, _, _, _ => rfl
  | 0, g + 1, l, h, _ => by
    have : l = [] := List.eq_nil_of_length_eq_zero (by omega)
    subst this
    rfl
  | f + 1, 0, l, _, h => by
    have : l = [] := List.eq_nil_of_length_eq_zero (by omega)
    subst this
    rfl
  | f + 1, g + 1, l, h1, h2 => by
    unfold T.wholeF
    by_cases h0 : l.isEmpty = true
    · rw [if_pos h0, if_pos h0]
    · rw [if_neg h0, if_neg h0]
      by_cases hb : U.bad l = true
      · rw [if_pos hb, if_pos hb]
      · rw [if_neg hb, if_neg hb]
        have hl : 0 < l.length := by
          cases l with
          | nil => exact absurd rfl h0
          | cons => simp
        have hd := (U.dec_le l)
        exact rw_wholeF_fuel f g _ (by rw [List.length_drop]; omega) (by rw [List.length_drop]; omega)
theorem rw_whole_step (l : List UInt8) (i : Nat) (hi : i < l.length) (hb : U.bad (l.drop i) = false) (k : Nat) (hk : (U.dec (l.drop i)).2 = k) (hk1 : 1 ≤ k) :
    T.wholeF (l.length - i) (l.drop i) = T.wholeF (l.length - (i + k)) (l.drop (i + k)) := by
  obtain ⟨f, hf⟩ : ∃ f, l.length - i = f + 1 := ⟨l.length - i - 1, by omega⟩
  rw [hf]
  conv => lhs; unfold T.wholeF
  have h0 : ¬ (l.drop i).isEmpty = true := by
    rw [List.isEmpty_iff]
    intro h
    have := congrArg List.length h
    rw [List.length_drop, List.length_nil] at this
    omega
  rw [if_neg h0, hb, if_neg (by decide), hk, List.drop_drop]
  exact rw_wholeF_fuel _ _ _ (by rw [List.length_drop]; omega) (by rw [List.length_drop]; omega)
theorem rw_whole_bad (l : List UInt8) (i : Nat) (hi : i < l.length) (hb : U.bad (l.drop i) = true) : T.wholeF (l.length - i) (l.drop i) = false := by
  obtain ⟨f, hf⟩ : ∃ f, l.length - i = f + 1 := ⟨l.length - i - 1, by omega⟩
  rw [hf]
  unfold T.wholeF
  have h0 : ¬ (l.drop i).isEmpty = true := by
    rw [List.isEmpty_iff]
    intro h
    have := congrArg List.length h
    rw [List.length_drop, List.length_nil] at this
    omega
  rw [if_neg h0, hb, if_pos rfl]
theorem rw_width_dec (b : List UInt8) (hb : 0 < b.length) (h : U.bad b = false) : widthZ ((U.dec b).1 : Int) = (U.dec b).2 := by
  obtain ⟨e1, e2, e3⟩ := U.enc_dec b hb h
  have h1 := U.enc_len_of _ e1
  rw [e2, List.length_take] at h1
  have h2 : min (U.dec b).2 b.length = (U.dec b).2 := by omega
  rw [h2] at h1
  rw [h1]
  rfl
set_option maxRecDepth 20000 in
set_option maxHeartbeats 4000000 in
theorem rtexts_any (l : List UInt8) (w : World) (hl : l.length ≤ 1048576) :
    Calls Tryz.prog 45 #[.string ⟨l.toArray⟩] w fun e w' => e = .returned (.bool (T.whole l)) ∧ Below w.heap.size w w' := by
  obtain ⟨R, hR⟩ : ∃ R, T.whole l = R := ⟨_, rfl⟩
  rw [hR]
  have HR := Lib.hid hR
  clear hR
  go_enter Tryz.func45, Tryz.ntmps45
  go_wp2
  go_loopw [3] (fun u wr => ∃ i : Nat, u = .int .i64 i ∧ i ≤ l.length ∧ T.wholeF (l.length - i) (l.drop i) = R ∧ Below w.heap.size w wr) (fun u _ => l.length - (intOf u).toNat)
  case atStart => exact ⟨0, rfl, Nat.zero_le _, by rw [Nat.sub_zero, List.drop_zero]; exact HR.out, Below.refl _ _⟩
  case round =>
    obtain ⟨i, rfl, hi, hwl, hbe⟩ := hrel
    have HWL := Lib.hid hwl
    have HBE := Lib.hid hbe
    clear hwl hbe
    by_cases hlt : i < l.length
    · have hlt' : (i : Int) < (l.length : Int) := by omega
      have hone := fun (W : World) => utfOne_any ⟨l.toArray⟩ i W (by show l.toArray.size ≤ _; rw [List.size_toArray]; omega) (by show i < l.toArray.size; rw [List.size_toArray]; exact hlt)
      simp only at hone
      have hdl : (l.drop i).length = l.length - i := List.length_drop
      cases hb : U.bad (l.drop i) with
      | true =>
        have hone1 : U.one (l.drop i) = -1 := by unfold U.one; rw [if_pos hb]
        simp only [hone1] at hone
        have hRf : R = false := by rw [← HWL.out, rw_whole_bad l i hlt hb]
        subst hRf
        have HONE := Lib.hid hone
        clear hone hb hone1 hdl
        go_wp2_with fail
        refine (HONE.out _).mono ?_
        rintro _ w2 ⟨rfl, hb2⟩
        have HB2 := Lib.hid (below_call HBE.out hb2)
        clear hb2
        go_wp2
        go_ret
        exact ⟨rfl, HB2.out⟩
      | false =>
        have hone1 : U.one (l.drop i) = ((U.dec (l.drop i)).1 : Int) := by unfold U.one; rw [if_neg (by rw [hb]; decide)]
        have hwd := rw_width_dec (l.drop i) (by omega) hb
        have hst := rw_whole_step l i hlt hb _ rfl (U.dec_le (l.drop i)).2.2
        have hk2 := (U.enc_dec (l.drop i) (by omega) hb).2.2
        have hk1 := (U.dec_le (l.drop i)).2.2
        simp only [hone1] at hone
        obtain ⟨n, hn⟩ : ∃ n, (U.dec (l.drop i)).1 = n := ⟨_, rfl⟩
        obtain ⟨k, hk⟩ : ∃ k, (U.dec (l.drop i)).2 = k := ⟨_, rfl⟩
        rw [hk] at hst hk2 hk1 hwd
        rw [hn] at hwd
        simp only [hn] at hone
        have hwid := width_any (n : Int)
        rw [hwd] at hwid
        have HONE := Lib.hid hone
        have HWID := Lib.hid hwid
        have HST := Lib.hid hst
        have hik : i + k ≤ l.length := by omega
        clear hone hwid hst hn hk hwd hone1 hb hdl hk2
        go_wp2_with fail
        refine (HONE.out _).mono ?_
        rintro _ w2 ⟨rfl, hb2⟩
        have HB2 := Lib.hid (below_call HBE.out hb2)
        clear hb2
        go_wp2_with fail
        refine (HWID.out _).mono ?_
        rintro _ w3 ⟨rfl, rfl⟩
        go_wp2
        exact ⟨⟨i + k, by rw [Int.natCast_add], hik, by rw [← HST.out]; exact HWL.out, HB2.out⟩, by simp [intOf]; omega⟩
    · have hlt' : ¬ (i : Int) < (l.length : Int) := by omega
      have h0 : l.length - i = 0 := by omega
      have hRt : R = true := by
        rw [← HWL.out, h0, List.drop_of_length_le (by omega)]; rfl
      subst hRt
      clear h0
      go_wp2
      go_ret
      exact ⟨rfl, HBE.out⟩
end Go.Proofs.YtaojgcioljcpmaaGreatDoor
namespace Go.Proofs.YtaojgcioljcpmaaGreatDoor
open Go.RowKit

theorem digs_small : ∀ (k n : Nat), n < 10 ^ (k + 1) → (Lib.decDigits n).length ≤ k + 1
  | 0, n, h => by
    have h10 : n < 10 := by simpa using h
    rw [Lib.decDigits, dif_pos h10]; simp
  | k + 1, n, h => by
    rw [Lib.decDigits]
    split
    · simp
    · have := digs_small k (n / 10) (by rw [Nat.pow_succ] at h; omega)
      rw [List.length_append]; simp; omega
theorem sd_switch {P : Program} {ops : Array Oper} {md : Region.Mode} {Q : Exit → Act → World → Prop} {S S' : World → Prop} (hSS : ∀ w, S' w → S w) :
    ∀ (fuel : Nat) (listed : Array Bool) (a : Act) (w : World), wpAnyH P md ops Q S' fuel listed a w → wpAnyH P md ops Q S fuel listed a w
  | 0, _, _, _, h => h
  | fuel + 1, _, _, _, h => ⟨h.1, fun i hi => wpOp_mono (fun a' w' h' => ⟨hSS _ h'.1, sd_switch hSS fuel _ a' w' h'.2⟩) (h.2 i hi)⟩
theorem sd_take {P : Program} {ops : Array Oper} {md : Region.Mode} {Q : Exit → Act → World → Prop} {S : World → Prop} {i d : Nat} {oi : Oper} {v : Value} {fuel : Nat} {listed : Array Bool} {a : Act} {w : World} (hi : ops[i]? = some oi) (hd : oi.dst = some d)
    (hs : Region.noSelect ops = true) (hf : Region.free md ops listed i = true) (hr : (Region.ready md ops listed).contains i = true)
    (hQ : ∀ c a w, Q (.panic c) (a.put oi.dst v) w → Q (.panic c) a w) (hy : YieldsIf P ops S oi v a) (hS : S w)
    (h : wpAnyH P md ops Q S fuel (listed.setIfInBounds i true) (a.put (some d) v) w) : wpAnyH P md ops Q S (fuel + 1) listed a w :=
  wpAnyH_take hi hs hf hr hQ hy hS (by rw [hd]; exact h)
/-- what stands while the region goes on: nothing old is touched; .. and a new cell -/
def SB (w0 w' : World) : Prop := Below w0.heap.size w0 w'
def SC (w0 : World) (N : Nat) (x : Value) (w' : World) : Prop := SB w0 w' ∧ w'.cell? ⟨N, 0, none⟩ = some x ∧ N < w'.heap.size
theorem SB.alloc {w0 w : World} (h : SB w0 w.drew) (o : Obj) : SB w0 (w.alloc o).drew := by
  have h' : Below w0.heap.size w0 w := ⟨h.os, h.tape, h.output, h.size, h.block⟩
  exact (h'.alloc h'.size _).drew
theorem SB.call {w0 w v : World} (h : SB w0 w) (hb : Below w.heap.size w v) : SB w0 v := h.trans (hb.mono h.size)
theorem SC.call {w0 w v : World} {N : Nat} {x : Value} (h : SC w0 N x w) (hb : Below w.heap.size w v) : SC w0 N x v :=
  ⟨h.1.call hb, (hb.cell (p := ⟨N, 0, none⟩) h.2.2).trans h.2.1, Nat.lt_of_lt_of_le h.2.2 hb.size⟩
theorem new_u8 (w : World) (x : Value) (t : TypeId) : (w.alloc (.cells #[x] t)).cell? ⟨w.heap.size, 0, none⟩ = some x := (Blk.new w w.heap.size #[x] t rfl).cell 0
set_option maxRecDepth 20000 in
set_option maxHeartbeats 4000000 in
theorem rdigits_nat : ∀ (n : Nat) (w : World), n ≤ 4611686018427387904 →
    Calls Tryz.prog 47 #[.int .i64 n] w fun e w' => e = .returned (.string ⟨(Lib.decDigits n).toArray⟩) ∧ Below w.heap.size w w' := by
  intro n
  induction n using Nat.strongRecOn with
  | _ n ih =>
    intro w hn
    have hcv0 : ∀ (k : Nat) (c : UInt8), k < 10 → UInt8.ofNat (48 + k) = c → ∀ (W : World) (N : Nat), W.cell? ⟨N, 0, none⟩ = some (.int .u8 (48 + (k : Int))) →
        (convert 38 9 (.slice (some ⟨N, 0, none⟩) 1 1)).run Tryz.prog W = .ok (.string ⟨#[c]⟩) W := by
      intro k c hk hc W N hN
      have := run_convert_bytes_arg (P := Tryz.prog) W 38 5 Tryz.underlying38 Tryz.underlying5 N 0 1 1 [48 + (k : Int)] rfl
        (fun i hi => by obtain rfl : i = 0 := by omega
                        exact hN) 9 Tryz.underlying9
      have he : strOfNums [48 + (k : Int)] = ⟨#[c]⟩ := by
        have h2 : (48 + (k : Int)).toNat = 48 + k := by omega
        simp only [strOfNums, List.map_cons, List.map_nil, h2, ← hc]
      rw [he] at this
      exact this
    by_cases h10 : n < 10
    · have h10' : (n : Int) < 10 := by omega
      rw [Lib.decDigits_one h10]
      obtain ⟨c, hc⟩ : ∃ c, UInt8.ofNat (48 + n) = c := ⟨_, rfl⟩
      rw [hc]
      have hcv := hcv0 n c h10 hc (w.alloc (.cells #[.int .u8 (48 + (n : Int))] 5)) w.heap.size (new_u8 _ _ _)
      clear ih hcv0 hc
      go_enter Tryz.func47, Tryz.ntmps47
      go_wp2
      go_ret
      exact ⟨rfl, (Below.refl _ _).alloc (Nat.le_refl _) _⟩
    · have h10' : ¬ (n : Int) < 10 := by omega
      obtain ⟨q, hq⟩ : ∃ q, n / 10 = q := ⟨_, rfl⟩
      obtain ⟨r, hr⟩ : ∃ r, n % 10 = r := ⟨_, rfl⟩
      have hr10 : r < 10 := by omega
      have hr10' : (r : Int) < 10 := by omega
      have hq4 : q ≤ 4611686018427387904 := by omega
      have hqn : q < n := by omega
      obtain ⟨c, hc⟩ : ∃ c, UInt8.ofNat (48 + r) = c := ⟨_, rfl⟩
      have hdd : Lib.decDigits n = Lib.decDigits q ++ [c] := by rw [Lib.decDigits, dif_neg h10, hq, hr, hc]
      rw [hdd]
      have hQ := ih q hqn
      have hlen : (Lib.decDigits q).length ≤ 20 := digs_small 19 q (by omega)
      obtain ⟨D, hD⟩ : ∃ D, Lib.decDigits q = D := ⟨_, rfl⟩
      rw [hD] at hQ hlen ⊢
      have HQ := Lib.hid hQ
      have hcv := hcv0 r c hr10 hc
      have hq' : (n : Int).tdiv 10 = (q : Int) := by rw [← hq]; rfl
      have hr' : (n : Int).tmod 10 = (r : Int) := by rw [← hr]; rfl
      have hj : ¬ 9223372036854775807 < D.length + 1 := by omega
      have hj' : ¬ 9223372036854775807 < D.toArray.size + 1 := by rw [List.size_toArray]; omega
      have happ : (⟨D.toArray⟩ : ByteArray) ++ ⟨#[c]⟩ = ⟨(D ++ [c]).toArray⟩ := by
        apply ByteArray.ext
        apply Array.toList_inj.1
        simp [ByteArray.data_append]
      have HAPP := Lib.hid happ
      have hwq : IntKind.i64.wrap (q : Int) = q := by simp [IntKind.wrap, IntKind.bits, IntKind.signed]; omega
      have hwr : IntKind.i64.wrap (r : Int) = r := by simp [IntKind.wrap, IntKind.bits, IntKind.signed]; omega
      have hwr2 : IntKind.i64.wrap (48 + (r : Int)) = 48 + r := by simp [IntKind.wrap, IntKind.bits, IntKind.signed]; omega
      have hwr3 : IntKind.u8.wrap (48 + (r : Int)) = 48 + r := by simp [IntKind.wrap, IntKind.bits, IntKind.signed]; omega
      clear ih hQ hD hdd hq hr hcv0 hc happ
      go_enter Tryz.func47, Tryz.ntmps47
      go_wp2_with fail
      refine wp_region_held_drew (S := SB w) (by kernel_rfl) (show SB w w.drew from (Below.refl _ _).drew) (fun hHeld => ?_)
      refine sd_take (i := 0) (d := 10) (v := ?_) rfl rfl (by kernel_rfl) (by kernel_rfl) (by kernel_rfl) (fun _ _ _ h => h) (Or.inl ⟨by rfl, ?_⟩) (by assumption) ?_
      rotate_left 1
      · (rintro w _; go_simp; try with_reducible rfl)
      simp only [Act.put, List.setIfInBounds_toArray, List.set_cons_zero, List.set_cons_succ]
      refine sd_take (i := 1) (d := 11) (v := ?_) rfl rfl (by kernel_rfl) (by kernel_rfl) (by kernel_rfl) (fun _ _ _ h => h) (Or.inl ⟨by rfl, ?_⟩) (by assumption) ?_
      rotate_left 1
      · (rintro w _; go_simp; try with_reducible rfl)
      simp only [Act.put, List.setIfInBounds_toArray, List.set_cons_zero, List.set_cons_succ]
      refine sd_take (i := 3) (d := 13) (v := ?_) rfl rfl (by kernel_rfl) (by kernel_rfl) (by kernel_rfl) (fun _ _ _ h => h) (Or.inl ⟨by rfl, ?_⟩) (by assumption) ?_
      rotate_left 1
      · (rintro w _; go_simp; try with_reducible rfl)
      simp only [Act.put, List.setIfInBounds_toArray, List.set_cons_zero, List.set_cons_succ]
      refine sd_take (i := 4) (d := 14) (v := ?_) rfl rfl (by kernel_rfl) (by kernel_rfl) (by kernel_rfl) (fun _ _ _ h => h) (Or.inl ⟨by rfl, ?_⟩) (by assumption) ?_
      rotate_left 1
      · (rintro w _; go_simp; try with_reducible rfl)
      simp only [Act.put, List.setIfInBounds_toArray, List.set_cons_zero, List.set_cons_succ]
      refine sd_take (i := 5) (d := 15) (v := ?_) rfl rfl (by kernel_rfl) (by kernel_rfl) (by kernel_rfl) (fun _ _ _ h => h) (Or.inl ⟨by rfl, ?_⟩) (by assumption) ?_
      rotate_left 1
      · (rintro w _; go_simp; try with_reducible rfl)
      simp only [Act.put, List.setIfInBounds_toArray, List.set_cons_zero, List.set_cons_succ]
      refine sd_take (i := 6) (d := 16) (v := ?_) rfl rfl (by kernel_rfl) (by kernel_rfl) (by kernel_rfl) (fun _ _ _ h => h) (Or.inl ⟨by rfl, ?_⟩) (by assumption) ?_
      rotate_left 1
      · (rintro w _; go_simp; try with_reducible rfl)
      simp only [Act.put, List.setIfInBounds_toArray, List.set_cons_zero, List.set_cons_succ]
      refine wpAnyH_ready (rs := [2, 7]) (by kernel_rfl) (by simp) ?_
      refine AllReadyH.cons (o := _) rfl (fun K hK => ?_) ?_
      · go_simp
        refine (HQ.out _ hq4).mono ?_
        rintro _ w2 ⟨rfl, hb2⟩
        go_wp2_with fail
        refine hK.out _ _ (SB.call hHeld hb2) (fun hH => ?_)
        clear hK K
        refine wpAnyH_ready (rs := [7]) (by kernel_rfl) (by simp) ?_
        refine AllReadyH.cons (o := _) rfl (fun K hK => ?_) AllReadyH.nil
        go_simp
        refine hK.out _ _ (hH.trans (((Below.refl _ _).alloc (Nat.le_refl _) _).mono hH.size)) (fun hH3 => ?_)
        clear hK K
        refine sd_switch (S' := SC w w2.heap.size (.int .u8 (48 + (r : Int)))) (fun w h => h.1) _ _ _ _ ?_
        have hH2 : SC w w2.heap.size (.int .u8 (48 + (r : Int))) (w2.alloc (.cells #[.int .u8 (48 + (r : Int))] 5)) := ⟨hH3, new_u8 _ _ _, by simp⟩
        clear hH hH3
        refine sd_take (i := 8) (d := 18) (v := ?_) rfl rfl (by kernel_rfl) (by kernel_rfl) (by kernel_rfl) (fun _ _ _ h => h) (Or.inl ⟨by rfl, ?_⟩) (by assumption) ?_
        rotate_left 1
        · (rintro w ⟨_, h1, _⟩; go_simp; try with_reducible rfl)
        simp only [Act.put, List.setIfInBounds_toArray, List.set_cons_zero, List.set_cons_succ]
        refine sd_take (i := 9) (d := 19) (v := ?_) rfl rfl (by kernel_rfl) (by kernel_rfl) (by kernel_rfl) (fun _ _ _ h => h) (Or.inl ⟨by rfl, ?_⟩) (by assumption) ?_
        rotate_left 1
        · (rintro w _; go_simp; try with_reducible rfl)
        simp only [Act.put, List.setIfInBounds_toArray, List.set_cons_zero, List.set_cons_succ]
        refine sd_take (i := 10) (d := 2) (v := ?_) rfl rfl (by kernel_rfl) (by kernel_rfl) (by kernel_rfl) (fun _ _ _ h => h) (Or.inl ⟨by rfl, ?_⟩) (by assumption) ?_
        rotate_left 1
        · (rintro w _; go_simp; try with_reducible rfl)
        simp only [Act.put, List.setIfInBounds_toArray, List.set_cons_zero, List.set_cons_succ]
        refine wpAnyH_done (by kernel_rfl) ?_ _
        go_wp2
        go_ret
        exact ⟨by rw [← HAPP.out]; rfl, hH2.1⟩
      · refine AllReadyH.cons (o := _) rfl (fun K hK => ?_) AllReadyH.nil
        go_simp
        refine hK.out _ _ (SB.alloc hHeld _) (fun hH3 => ?_)
        clear hK K
        refine sd_switch (S' := SC w w.heap.size (.int .u8 (48 + (r : Int)))) (fun w h => h.1) _ _ _ _ ?_
        have hH2 : SC w w.heap.size (.int .u8 (48 + (r : Int))) (w.alloc (.cells #[.int .u8 (48 + (r : Int))] 5)).drew := ⟨hH3, new_u8 _ _ _, by simp⟩
        clear hH3
        refine sd_take (i := 8) (d := 18) (v := ?_) rfl rfl (by kernel_rfl) (by kernel_rfl) (by kernel_rfl) (fun _ _ _ h => h) (Or.inl ⟨by rfl, ?_⟩) (by assumption) ?_
        rotate_left 1
        · (rintro w ⟨_, h1, _⟩; go_simp; try with_reducible rfl)
        simp only [Act.put, List.setIfInBounds_toArray, List.set_cons_zero, List.set_cons_succ]
        refine wpAnyH_ready (rs := [2]) (by kernel_rfl) (by simp) ?_
        refine AllReadyH.cons (o := _) rfl (fun K hK => ?_) AllReadyH.nil
        go_simp
        refine (HQ.out _ hq4).mono ?_
        rintro _ w2 ⟨rfl, hb2⟩
        go_wp2_with fail
        refine hK.out _ _ (SC.call hH2 hb2) (fun hH => ?_)
        clear hK K hH2
        refine sd_take (i := 9) (d := 19) (v := ?_) rfl rfl (by kernel_rfl) (by kernel_rfl) (by kernel_rfl) (fun _ _ _ h => h) (Or.inl ⟨by rfl, ?_⟩) (by assumption) ?_
        rotate_left 1
        · (rintro w _; go_simp; try with_reducible rfl)
        simp only [Act.put, List.setIfInBounds_toArray, List.set_cons_zero, List.set_cons_succ]
        refine sd_take (i := 10) (d := 2) (v := ?_) rfl rfl (by kernel_rfl) (by kernel_rfl) (by kernel_rfl) (fun _ _ _ h => h) (Or.inl ⟨by rfl, ?_⟩) (by assumption) ?_
        rotate_left 1
        · (rintro w _; go_simp; try with_reducible rfl)
        simp only [Act.put, List.setIfInBounds_toArray, List.set_cons_zero, List.set_cons_succ]
        refine wpAnyH_done (by kernel_rfl) ?_ _
        go_wp2
        go_ret
        exact ⟨by rw [← HAPP.out]; rfl, hH.1⟩
end Go.Proofs.YtaojgcioljcpmaaGreatDoor
namespace Go.Proofs.YtaojgcioljcpmaaGreatDoor
open Go.RowKit

theorem put_info8 : (Tryz.prog.info? 5).map (fun i => (i.zero, i.size, i.bytes)) = some (some (.int .u8 0), 1, 1) := by kernel_rfl
theorem put_esc_len (b : UInt8) : (T.esc b).length ≤ 2 := by
  unfold T.esc
  repeat' split
  all_goals simp
theorem put_escs_le (l : List UInt8) : (l.flatMap T.esc).length ≤ 2 * l.length := by
  induction l with
  | nil => simp
  | cons b l ih =>
    have := put_esc_len b
    rw [List.flatMap_cons, List.length_append, List.length_cons]; omega
theorem put_escs_take (l : List UInt8) (i : Nat) (h : i < l.length) : 34 :: (l.take (i + 1)).flatMap T.esc = (34 :: (l.take i).flatMap T.esc) ++ T.esc (l[i]'h) := by
  rw [List.take_succ_eq_append_getElem h, List.flatMap_append]; simp
theorem put_conv_bytes (l : List UInt8) (n c : Nat) (hn : l.length = n) (W : World) (N : Nat) (h : ∀ j u, (Lib.byteCells l)[j]? = some u → W.cell? ((⟨N, 0, none⟩ : Addr).add j) = some u) :
    (convert 38 9 (.slice (some ⟨N, 0, none⟩) n c)).run Tryz.prog W = .ok (.string ⟨l.toArray⟩) W := by
  have := run_convert_bytes_arg (P := Tryz.prog) W 38 5 Tryz.underlying38 Tryz.underlying5 N 0 n c (l.map fun b => (b.toNat : Int)) (by rw [List.length_map]; exact hn)
    (fun i hi => by
      have hil : i < l.length := by omega
      have h2 := h i (.int .u8 (l[i]'hil).toNat) (by rw [Lib.byteCells, List.getElem?_map, List.getElem?_eq_getElem hil]; rfl)
      have hadd : (⟨N, 0, none⟩ : Addr).add i = ⟨N, 0 + i, none⟩ := by unfold Addr.add; split <;> simp_all
      rw [hadd] at h2
      rw [h2, List.getD_eq_getElem?_getD, List.getElem?_map, List.getElem?_eq_getElem hil]
      rfl) 9 Tryz.underlying9
  have he : strOfNums (l.map fun b => (b.toNat : Int)) = ⟨l.toArray⟩ := by
    have hm : (l.map fun b => (b.toNat : Int)).map (fun z : Int => UInt8.ofNat z.toNat) = l := by
      rw [List.map_map]
      conv => rhs; rw [← List.map_id l]
      apply List.map_congr_left
      intro b _
      simp
    exact congrArg (fun q : List UInt8 => (⟨q.toArray⟩ : ByteArray)) hm
  rw [he] at this
  exact this
set_option maxRecDepth 50000 in
set_option maxHeartbeats 4000000 in
theorem rput_any (k : Int) (tt : List UInt8) (n pa pl pc : Int) (w : World) (hl : tt.length ≤ 1048576) (hn : k = 3 → 0 ≤ n ∧ n ≤ 4611686018427387904) :
    Calls Tryz.prog 30 #[.agg #[.int .u8 k, .string ⟨tt.toArray⟩, .int .i64 n, .int .i64 pa, .int .i64 pl, .int .i64 pc]] w fun e w' => e = .returned (.string ⟨(T.one ⟨k, tt, n, ⟨pa, pl, pc⟩⟩).toArray⟩) ∧ Below w.heap.size w w' := by
  by_cases h3 : k = 3
  · subst h3
    obtain ⟨h0, h1⟩ := hn rfl
    obtain ⟨m, rfl⟩ : ∃ m : Nat, n = (m : Int) := ⟨n.toNat, by omega⟩
    have hm : m ≤ 4611686018427387904 := by omega
    have hone : T.one ⟨3, tt, (m : Int), ⟨pa, pl, pc⟩⟩ = Lib.decDigits m := by
      unfold T.one
      rw [if_pos rfl, Lib.itoa]
      show (if (m : Int) < 0 then _ else _) = _
      rw [if_neg (by omega)]
      simp
    rw [hone]
    have hD := fun W => rdigits_nat m W hm
    obtain ⟨D, hDD⟩ : ∃ D, Lib.decDigits m = D := ⟨_, rfl⟩
    rw [hDD] at hD ⊢
    have HD := Lib.hid hD
    clear hD hDD hone hn
    go_enter Tryz.func30, Tryz.ntmps30
    go_wp2_with fail
    refine (HD.out _).mono ?_
    rintro _ w2 ⟨rfl, hb2⟩
    go_wp2
    go_ret
    exact ⟨rfl, ((Below.refl _ _).alloc (Nat.le_refl _) _).trans (hb2.mono (by simp))⟩
  · have hk3 : (k == 3) = false := by rw [beq_eq_false_iff_ne]; exact h3
    by_cases h4 : k = 4
    · subst h4
      obtain ⟨i0, hi, hz0, hz1, hz2⟩ := info_parts put_info8
      obtain ⟨m, hm⟩ : ∃ m, tt.length = m := ⟨_, rfl⟩
      have HM := Lib.hid hm
      have hm2 : m ≤ 1048576 := by omega
      clear hn h3 hm hl
      go_enter Tryz.func30, Tryz.ntmps30
      go_wp2
      go_loopw [4, 3] (fun u v wr => ∃ (i : Nat), u = .int .i64 i ∧ i ≤ m ∧ wr.ownsRow (w.heap.size + 1) 5 1 v (34 :: (tt.take i).flatMap T.esc).length (Lib.byteCells (34 :: (tt.take i).flatMap T.esc)) ∧ Blk wr w.heap.size #[.int .u8 4, .string ⟨tt.toArray⟩, .int .i64 n, .int .i64 pa, .int .i64 pl, .int .i64 pc] 42 ∧ Below w.heap.size w wr) (fun u _ _ => m - (intOf u).toNat)
      case atStart =>
        refine ⟨0, rfl, Nat.zero_le _, ?_, (Blk.new w _ _ _ rfl).alloc _, ((Below.refl _ _).alloc (Nat.le_refl _) _).alloc (by simp) _⟩
        exact ⟨rfl, .inr ⟨w.heap.size + 1, 1, #[.int .u8 34], by simp, Nat.le_refl _, by have := heap_alloc_new (w.alloc (.cells #[.int .u8 4, .string ⟨tt.toArray⟩, .int .i64 n, .int .i64 pa, .int .i64 pl, .int .i64 pc] 42)) (.cells #[.int .u8 34] 5); simpa using this, Nat.le_refl _, by decide, rfl, rfl⟩⟩
      case round =>
        obtain ⟨i, rfl, hi', hown, hblk, hbe⟩ := hrel
        obtain ⟨P, hP⟩ : ∃ P, 34 :: (tt.take i).flatMap T.esc = P := ⟨_, rfl⟩
        have hPl : P.length ≤ 2097153 := by
          rw [← hP, List.length_cons]
          have h1 := put_escs_le (tt.take i)
          rw [List.length_take] at h1
          have := HM.out
          omega
        rw [hP] at hown
        obtain ⟨va, vc, hv⟩ := own_slice hown
        subst hv
        have hse := hbe.size
        have t1 : wr.cell? ⟨w.heap.size, 1, none⟩ = some (.string ⟨tt.toArray⟩) := hblk.cell 1
        have hwl : w.heap.size < wr.heap.size := hblk.lt
        have HOWN := Lib.hid hown
        have HBLK := Lib.hid hblk
        have HBE := Lib.hid hbe
        clear hown hblk hbe
        by_cases hlt : i < m
        · have hil : i < tt.length := by rw [HM.out]; exact hlt
          have hxi : ∀ h, ((⟨tt.toArray⟩ : ByteArray)[i]'h).toNat = (tt[i]'hil).toNat := fun _ => rfl
          have het := put_escs_take tt i hil
          obtain ⟨y, hy⟩ : ∃ y, tt[i]'hil = y := ⟨_, rfl⟩
          rw [hy] at hxi het
          rw [hP] at het
          have HET := Lib.hid het
          have t2 := fun (o : Obj) => cell_al1 t1 (by simpa using hwl) o
          have hlt' : (i : Int) < (tt.length : Int) := by omega
          have hisz : i < (⟨tt.toArray⟩ : ByteArray).size := by show i < tt.toArray.size; rw [List.size_toArray]; exact hil
          clear hP het hy
          by_cases y10 : y.toNat = 10
          · have hy10 : y = 10 := UInt8.toNat.inj y10
            have b10 : ((y.toNat : Int) == 10) = true := by rw [beq_iff_eq]; omega
            go_wp2_with (at_builtin; refine wpList_append_own _ rfl _ _ 38 rfl (w.heap.size + 1) 5 i0 (.int .u8 0) 1 1 Tryz.underlying38 hi hz0 hz1 hz2 rfl (by decide) _ _ _ rfl (World.ownsRow.alloc HOWN.out _) ⟨wr.heap.size, 0, none⟩ 2 2 [.int .u8 92, .int .u8 110] rfl rfl ?c1 ?c2 ?c3 ?c4 ?c5 ?_)
            first | (case c1 => exact cells_new _ _ [.int .u8 92, .int .u8 110] _ rfl) | skip
            case c2 => first | rfl | (intro u hu; simp at hu; first | (subst hu; rfl) | (rcases hu with rfl | rfl <;> rfl))
            case c3 => unfold maxLen; omega
            case c4 => omega
            first | (case c5 => simp; omega) | skip
            intro v' w' hown' hgrow _
            obtain ⟨ta, tc, hv⟩ := own_slice hown'
            subst hv
            have hown2 : w'.ownsRow (w.heap.size + 1) 5 1 (.slice ta (P.length + 2) tc) (P ++ [92, 110]).length (Lib.byteCells (P ++ [92, 110])) := by
              rw [Lib.byteCells_append, List.length_append]; exact hown'
            have hblk2 : Blk w' w.heap.size #[.int .u8 4, .string ⟨tt.toArray⟩, .int .i64 n, .int .i64 pa, .int .i64 pl, .int .i64 pc] 42 := Blk.of (HBLK.out.alloc _) (hgrow.block _ (by simp; omega) (fun he => by have := (HOWN.out.lt _ he.symm).1; omega))
            have hbe2 : Below w.heap.size w w' := (HBE.out.alloc hse _).grown hgrow (by simp; omega) (fun k hk => by have := (HOWN.out.lt k hk).1; omega)
            have HOWN2 := Lib.hid hown2
            have HBLK2 := Lib.hid hblk2
            have HBE2 := Lib.hid hbe2
            clear hown' hgrow hown2 hblk2 hbe2
            have HP2 := Lib.hid (show 34 :: (tt.take (i + 1)).flatMap T.esc = P ++ [92, 110] by rw [HET.out]; first | (rw [show T.esc y = [92, 110] from (by rw [hy10]; rfl)]; done) | skip)
            go_wp2
            refine ⟨⟨i + 1, by rw [Int.natCast_add]; rfl, hlt, by rw [HP2.out]; exact HOWN2.out, HBLK2.out, HBE2.out⟩, by simp [intOf]; omega⟩
          · have b10 : ((y.toNat : Int) == 10) = false := by rw [beq_eq_false_iff_ne]; omega
            by_cases y9 : y.toNat = 9
            · have hy9 : y = 9 := UInt8.toNat.inj y9
              have b9 : ((y.toNat : Int) == 9) = true := by rw [beq_iff_eq]; omega
              go_wp2_with (at_builtin; refine wpList_append_own _ rfl _ _ 38 rfl (w.heap.size + 1) 5 i0 (.int .u8 0) 1 1 Tryz.underlying38 hi hz0 hz1 hz2 rfl (by decide) _ _ _ rfl (World.ownsRow.alloc HOWN.out _) ⟨wr.heap.size, 0, none⟩ 2 2 [.int .u8 92, .int .u8 116] rfl rfl ?c1 ?c2 ?c3 ?c4 ?c5 ?_)
              first | (case c1 => exact cells_new _ _ [.int .u8 92, .int .u8 116] _ rfl) | skip
              case c2 => first | rfl | (intro u hu; simp at hu; first | (subst hu; rfl) | (rcases hu with rfl | rfl <;> rfl))
              case c3 => unfold maxLen; omega
              case c4 => omega
              first | (case c5 => simp; omega) | skip
              intro v' w' hown' hgrow _
              obtain ⟨ta, tc, hv⟩ := own_slice hown'
              subst hv
              have hown2 : w'.ownsRow (w.heap.size + 1) 5 1 (.slice ta (P.length + 2) tc) (P ++ [92, 116]).length (Lib.byteCells (P ++ [92, 116])) := by
                rw [Lib.byteCells_append, List.length_append]; exact hown'
              have hblk2 : Blk w' w.heap.size #[.int .u8 4, .string ⟨tt.toArray⟩, .int .i64 n, .int .i64 pa, .int .i64 pl, .int .i64 pc] 42 := Blk.of (HBLK.out.alloc _) (hgrow.block _ (by simp; omega) (fun he => by have := (HOWN.out.lt _ he.symm).1; omega))
              have hbe2 : Below w.heap.size w w' := (HBE.out.alloc hse _).grown hgrow (by simp; omega) (fun k hk => by have := (HOWN.out.lt k hk).1; omega)
              have HOWN2 := Lib.hid hown2
              have HBLK2 := Lib.hid hblk2
              have HBE2 := Lib.hid hbe2
              clear hown' hgrow hown2 hblk2 hbe2
              have HP2 := Lib.hid (show 34 :: (tt.take (i + 1)).flatMap T.esc = P ++ [92, 116] by rw [HET.out]; first | (rw [show T.esc y = [92, 116] from (by rw [hy9]; rfl)]; done) | skip)
              go_wp2
              refine ⟨⟨i + 1, by rw [Int.natCast_add]; rfl, hlt, by rw [HP2.out]; exact HOWN2.out, HBLK2.out, HBE2.out⟩, by simp [intOf]; omega⟩
            · have b9 : ((y.toNat : Int) == 9) = false := by rw [beq_eq_false_iff_ne]; omega
              by_cases y34 : y.toNat = 34
              · have hy34 : y = 34 := UInt8.toNat.inj y34
                have b34 : ((y.toNat : Int) == 34) = true := by rw [beq_iff_eq]; omega
                go_wp2_with (at_builtin; refine wpList_append_own _ rfl _ _ 38 rfl (w.heap.size + 1) 5 i0 (.int .u8 0) 1 1 Tryz.underlying38 hi hz0 hz1 hz2 rfl (by decide) _ _ _ rfl (World.ownsRow.alloc HOWN.out _) ⟨wr.heap.size, 0, none⟩ 2 2 [.int .u8 92, .int .u8 34] rfl rfl ?c1 ?c2 ?c3 ?c4 ?c5 ?_)
                first | (case c1 => exact cells_new _ _ [.int .u8 92, .int .u8 34] _ rfl) | skip
                case c2 => first | rfl | (intro u hu; simp at hu; first | (subst hu; rfl) | (rcases hu with rfl | rfl <;> rfl))
                case c3 => unfold maxLen; omega
                case c4 => omega
                first | (case c5 => simp; omega) | skip
                intro v' w' hown' hgrow _
                obtain ⟨ta, tc, hv⟩ := own_slice hown'
                subst hv
                have hown2 : w'.ownsRow (w.heap.size + 1) 5 1 (.slice ta (P.length + 2) tc) (P ++ [92, 34]).length (Lib.byteCells (P ++ [92, 34])) := by
                  rw [Lib.byteCells_append, List.length_append]; exact hown'
                have hblk2 : Blk w' w.heap.size #[.int .u8 4, .string ⟨tt.toArray⟩, .int .i64 n, .int .i64 pa, .int .i64 pl, .int .i64 pc] 42 := Blk.of (HBLK.out.alloc _) (hgrow.block _ (by simp; omega) (fun he => by have := (HOWN.out.lt _ he.symm).1; omega))
                have hbe2 : Below w.heap.size w w' := (HBE.out.alloc hse _).grown hgrow (by simp; omega) (fun k hk => by have := (HOWN.out.lt k hk).1; omega)
                have HOWN2 := Lib.hid hown2
                have HBLK2 := Lib.hid hblk2
                have HBE2 := Lib.hid hbe2
                clear hown' hgrow hown2 hblk2 hbe2
                have HP2 := Lib.hid (show 34 :: (tt.take (i + 1)).flatMap T.esc = P ++ [92, 34] by rw [HET.out]; first | (rw [show T.esc y = [92, 34] from (by rw [hy34]; rfl)]; done) | skip)
                go_wp2
                refine ⟨⟨i + 1, by rw [Int.natCast_add]; rfl, hlt, by rw [HP2.out]; exact HOWN2.out, HBLK2.out, HBE2.out⟩, by simp [intOf]; omega⟩
              · have b34 : ((y.toNat : Int) == 34) = false := by rw [beq_eq_false_iff_ne]; omega
                by_cases y92 : y.toNat = 92
                · have hy92 : y = 92 := UInt8.toNat.inj y92
                  have b92 : ((y.toNat : Int) == 92) = true := by rw [beq_iff_eq]; omega
                  go_wp2_with (at_builtin; refine wpList_append_own _ rfl _ _ 38 rfl (w.heap.size + 1) 5 i0 (.int .u8 0) 1 1 Tryz.underlying38 hi hz0 hz1 hz2 rfl (by decide) _ _ _ rfl (World.ownsRow.alloc HOWN.out _) ⟨wr.heap.size, 0, none⟩ 2 2 [.int .u8 92, .int .u8 92] rfl rfl ?c1 ?c2 ?c3 ?c4 ?c5 ?_)
                  first | (case c1 => exact cells_new _ _ [.int .u8 92, .int .u8 92] _ rfl) | skip
                  case c2 => first | rfl | (intro u hu; simp at hu; first | (subst hu; rfl) | (rcases hu with rfl | rfl <;> rfl))
                  case c3 => unfold maxLen; omega
                  case c4 => omega
                  first | (case c5 => simp; omega) | skip
                  intro v' w' hown' hgrow _
                  obtain ⟨ta, tc, hv⟩ := own_slice hown'
                  subst hv
                  have hown2 : w'.ownsRow (w.heap.size + 1) 5 1 (.slice ta (P.length + 2) tc) (P ++ [92, 92]).length (Lib.byteCells (P ++ [92, 92])) := by
                    rw [Lib.byteCells_append, List.length_append]; exact hown'
                  have hblk2 : Blk w' w.heap.size #[.int .u8 4, .string ⟨tt.toArray⟩, .int .i64 n, .int .i64 pa, .int .i64 pl, .int .i64 pc] 42 := Blk.of (HBLK.out.alloc _) (hgrow.block _ (by simp; omega) (fun he => by have := (HOWN.out.lt _ he.symm).1; omega))
                  have hbe2 : Below w.heap.size w w' := (HBE.out.alloc hse _).grown hgrow (by simp; omega) (fun k hk => by have := (HOWN.out.lt k hk).1; omega)
                  have HOWN2 := Lib.hid hown2
                  have HBLK2 := Lib.hid hblk2
                  have HBE2 := Lib.hid hbe2
                  clear hown' hgrow hown2 hblk2 hbe2
                  have HP2 := Lib.hid (show 34 :: (tt.take (i + 1)).flatMap T.esc = P ++ [92, 92] by rw [HET.out]; first | (rw [show T.esc y = [92, 92] from (by rw [hy92]; rfl)]; done) | skip)
                  go_wp2
                  refine ⟨⟨i + 1, by rw [Int.natCast_add]; rfl, hlt, by rw [HP2.out]; exact HOWN2.out, HBLK2.out, HBE2.out⟩, by simp [intOf]; omega⟩
                · have b92 : ((y.toNat : Int) == 92) = false := by rw [beq_eq_false_iff_ne]; omega
                  have hesc : T.esc y = [y] := by
                    unfold T.esc
                    rw [if_neg (fun h => y92 (by rw [h]; rfl)), if_neg (fun h => y34 (by rw [h]; rfl)), if_neg (fun h => y10 (by rw [h]; rfl)), if_neg (fun h => y9 (by rw [h]; rfl))]
                  go_wp2_with (at_builtin; refine wpList_append_own _ rfl _ _ 38 rfl (w.heap.size + 1) 5 i0 (.int .u8 0) 1 1 Tryz.underlying38 hi hz0 hz1 hz2 rfl (by decide) _ _ _ rfl (World.ownsRow.alloc HOWN.out _) ⟨wr.heap.size, 0, none⟩ 1 1 [.int .u8 (y.toNat : Int)] rfl rfl ?c1 ?c2 ?c3 ?c4 ?c5 ?_)
                  first | (case c1 => exact cells_new _ _ [.int .u8 (y.toNat : Int)] _ rfl) | skip
                  case c2 => first | rfl | (intro u hu; simp at hu; first | (subst hu; rfl) | (rcases hu with rfl | rfl <;> rfl))
                  case c3 => unfold maxLen; omega
                  case c4 => omega
                  first | (case c5 => simp; omega) | skip
                  intro v' w' hown' hgrow _
                  obtain ⟨ta, tc, hv⟩ := own_slice hown'
                  subst hv
                  have hown2 : w'.ownsRow (w.heap.size + 1) 5 1 (.slice ta (P.length + 1) tc) (P ++ [y]).length (Lib.byteCells (P ++ [y])) := by
                    rw [Lib.byteCells_append, List.length_append]; exact hown'
                  have hblk2 : Blk w' w.heap.size #[.int .u8 4, .string ⟨tt.toArray⟩, .int .i64 n, .int .i64 pa, .int .i64 pl, .int .i64 pc] 42 := Blk.of (HBLK.out.alloc _) (hgrow.block _ (by simp; omega) (fun he => by have := (HOWN.out.lt _ he.symm).1; omega))
                  have hbe2 : Below w.heap.size w w' := (HBE.out.alloc hse _).grown hgrow (by simp; omega) (fun k hk => by have := (HOWN.out.lt k hk).1; omega)
                  have HOWN2 := Lib.hid hown2
                  have HBLK2 := Lib.hid hblk2
                  have HBE2 := Lib.hid hbe2
                  clear hown' hgrow hown2 hblk2 hbe2
                  have HP2 := Lib.hid (show 34 :: (tt.take (i + 1)).flatMap T.esc = P ++ [y] by rw [HET.out]; first | (rw [show T.esc y = [y] from hesc]; done) | skip)
                  go_wp2
                  refine ⟨⟨i + 1, by rw [Int.natCast_add]; rfl, hlt, by rw [HP2.out]; exact HOWN2.out, HBLK2.out, HBE2.out⟩, by simp [intOf]; omega⟩
        · have hin : i = m := by omega
          have hlt' : ¬ (i : Int) < (tt.length : Int) := by have := HM.out; omega
          have hP' : 34 :: tt.flatMap T.esc = P := by rw [← hP, List.take_of_length_le (by have := HM.out; omega)]
          have HP := Lib.hid hP'
          clear hP hP' hin
          go_wp2_with (at_builtin; refine wpList_append_own _ rfl _ _ 38 rfl (w.heap.size + 1) 5 i0 (.int .u8 0) 1 1 Tryz.underlying38 hi hz0 hz1 hz2 rfl (by decide) _ _ _ rfl (World.ownsRow.alloc HOWN.out _) ⟨wr.heap.size, 0, none⟩ 1 1 [.int .u8 34] rfl rfl ?c1 ?c2 ?c3 ?c4 ?c5 ?_)
          first | (case c1 => exact cells_new _ _ [.int .u8 34] _ rfl) | skip
          case c2 => first | rfl | (intro u hu; simp at hu; first | (subst hu; rfl) | (rcases hu with rfl | rfl <;> rfl))
          case c3 => unfold maxLen; omega
          case c4 => omega
          first | (case c5 => simp; omega) | skip
          intro v' w' hown' hgrow _
          obtain ⟨ta, tc, hv⟩ := own_slice hown'
          subst hv
          have hown2 : w'.ownsRow (w.heap.size + 1) 5 1 (.slice ta (P.length + 1) tc) (P ++ [34]).length (Lib.byteCells (P ++ [34])) := by
            rw [Lib.byteCells_append, List.length_append]; exact hown'
          have hblk2 : Blk w' w.heap.size #[.int .u8 4, .string ⟨tt.toArray⟩, .int .i64 n, .int .i64 pa, .int .i64 pl, .int .i64 pc] 42 := Blk.of (HBLK.out.alloc _) (hgrow.block _ (by simp; omega) (fun he => by have := (HOWN.out.lt _ he.symm).1; omega))
          have hbe2 : Below w.heap.size w w' := (HBE.out.alloc hse _).grown hgrow (by simp; omega) (fun k hk => by have := (HOWN.out.lt k hk).1; omega)
          have HOWN2 := Lib.hid hown2
          have HBLK2 := Lib.hid hblk2
          have HBE2 := Lib.hid hbe2
          clear hown' hgrow hown2 hblk2 hbe2
          have hcb : ∃ g, ta = some ⟨g, 0, none⟩ := by
            rcases HOWN2.out.2 with ⟨h, _⟩ | ⟨g, cap, cur, hv, _⟩
            · injection h with h1 h2 h3; omega
            · injection hv with h1 h2 h3; exact ⟨g, h1⟩
          obtain ⟨g, rfl⟩ := hcb
          have hcv := put_conv_bytes (P ++ [34]) (P.length + 1) tc (by rw [List.length_append]; rfl) w' g (HOWN2.out.cells rfl)
          go_wp2
          go_ret
          refine ⟨?_, HBE2.out⟩
          have hone : T.one ⟨4, tt, n, ⟨pa, pl, pc⟩⟩ = P ++ [34] := by
            unfold T.one
            rw [if_neg (show ¬ ((4 : Int) = 3) by decide), if_pos (show (4 : Int) = 4 from rfl), ← HP.out]; rfl
          rw [hone]
          rfl
    · have hk4 : (k == 4) = false := by rw [beq_eq_false_iff_ne]; exact h4
      have hk4' : (k != 4) = true := by rw [bne_iff_ne]; exact h4
      rw [T.one_text ⟨k, tt, n, ⟨pa, pl, pc⟩⟩ h3 h4]
      go_enter Tryz.func30, Tryz.ntmps30
      go_wp2
      go_ret
      exact ⟨rfl, (Below.refl _ _).alloc (Nat.le_refl _) _⟩
end Go.Proofs.YtaojgcioljcpmaaGreatDoor
namespace Go.Proofs.YtaojgcioljcpmaaGreatDoor
open Go.RowKit

/-- what stands while a region goes on: the boxed token's text and number -/
def SM (W0 : World) (N : Nat) (tt : List UInt8) (n : Int) (w' : World) : Prop :=
  (w'.cell? ⟨N, 1, none⟩ = some (.string ⟨tt.toArray⟩) ∧ w'.cell? ⟨N, 2, none⟩ = some (.int .i64 n)) ∧ (N < W0.heap.size ∧ Below W0.heap.size W0 w')
theorem SM.call {W0 w v : World} {N : Nat} {tt : List UInt8} {n : Int} (h : SM W0 N tt n w) (hb : Below w.heap.size w v) : SM W0 N tt n v :=
  have hs := h.2.2.size
  have hN := h.2.1
  ⟨⟨(hb.cell (p := ⟨N, 1, none⟩) (by show N < _; omega)).trans h.1.1, (hb.cell (p := ⟨N, 2, none⟩) (by show N < _; omega)).trans h.1.2⟩, hN, h.2.2.trans (hb.mono hs)⟩
set_option maxRecDepth 50000 in
set_option maxHeartbeats 8000000 in
theorem rmay_any (k : Int) (tt : List UInt8) (n pa pl pc : Int) (w : World) (hl : tt.length ≤ 1048576) :
    Calls Tryz.prog 29 #[.agg #[.int .u8 k, .string ⟨tt.toArray⟩, .int .i64 n, .int .i64 pa, .int .i64 pl, .int .i64 pc]] w fun e w' => e = .returned (.bool (T.may ⟨k, tt, n, ⟨pa, pl, pc⟩⟩)) ∧ Below w.heap.size w w' := by
  obtain ⟨R, hR⟩ : ∃ R, T.may ⟨k, tt, n, ⟨pa, pl, pc⟩⟩ = R := ⟨_, rfl⟩
  rw [hR]
  by_cases h1 : k = 1
  · subst h1
    obtain ⟨W0, hW0⟩ : ∃ W0, w.alloc (.cells #[.int .u8 1, .string ⟨tt.toArray⟩, .int .i64 n, .int .i64 pa, .int .i64 pl, .int .i64 pc] 42) = W0 := ⟨_, rfl⟩
    have hbk0 : Blk W0 w.heap.size #[.int .u8 1, .string ⟨tt.toArray⟩, .int .i64 n, .int .i64 pa, .int .i64 pl, .int .i64 pc] 42 := by rw [← hW0]; exact heap_alloc_new w _
    have x0 : W0.cell? ⟨w.heap.size, 0, none⟩ = some (.int .u8 1) := hbk0.cell 0
    have x1 : W0.cell? ⟨w.heap.size, 1, none⟩ = some (.string ⟨tt.toArray⟩) := hbk0.cell 1
    have x2 : W0.cell? ⟨w.heap.size, 2, none⟩ = some (.int .i64 n) := hbk0.cell 2
    have hW : Below w.heap.size w W0 := by rw [← hW0]; exact (Below.refl _ _).alloc (Nat.le_refl _) _
    have htb : w.heap.size < W0.heap.size := by rw [← hW0]; simp
    have HW := Lib.hid hW
    clear hbk0 hW
    have HNM := Lib.hid (rname_any tt false)
    have hmay : T.may ⟨1, tt, n, ⟨pa, pl, pc⟩⟩ = (T.name tt false && decide (n = 0)) := by (unfold T.may; exact if_pos rfl)
    rw [hmay] at hR
    obtain ⟨N, hN⟩ : ∃ N, T.name tt false = N := ⟨_, rfl⟩
    rw [hN] at HNM hR
    have HR := Lib.hid hR.symm
    clear hmay hN hR
    go_enter Tryz.func29, Tryz.ntmps29
    go_wp2_with fail
    clear hW0
    refine (HNM.out _).mono ?_
    rintro _ w2 ⟨rfl, hb2⟩
    have y2 := (hb2.cell (p := ⟨w.heap.size, 2, none⟩) htb).trans x2
    have HB2 := Lib.hid hb2
    clear hb2
    cases N with
    | false =>
      go_wp2
      go_ret
      exact ⟨by rw [HR.out]; simp [], HW.out.trans (HB2.out.mono HW.out.size)⟩
    | true =>
      by_cases h0 : n = 0
      · have h0' : (n == 0) = true := by rw [beq_iff_eq]; exact h0
        go_wp2
        go_ret
        exact ⟨by rw [HR.out]; simp [h0], HW.out.trans (HB2.out.mono HW.out.size)⟩
      · have h0' : (n == 0) = false := by rw [beq_eq_false_iff_ne]; exact h0
        have H0 := Lib.hid h0
        clear h0
        go_wp2
        go_ret
        exact ⟨by rw [HR.out]; simp [H0.out], HW.out.trans (HB2.out.mono HW.out.size)⟩
  have k1 : (k == 1) = false := by rw [beq_eq_false_iff_ne]; exact h1
  by_cases h2 : k = 2
  · subst h2
    obtain ⟨W0, hW0⟩ : ∃ W0, w.alloc (.cells #[.int .u8 2, .string ⟨tt.toArray⟩, .int .i64 n, .int .i64 pa, .int .i64 pl, .int .i64 pc] 42) = W0 := ⟨_, rfl⟩
    have hbk0 : Blk W0 w.heap.size #[.int .u8 2, .string ⟨tt.toArray⟩, .int .i64 n, .int .i64 pa, .int .i64 pl, .int .i64 pc] 42 := by rw [← hW0]; exact heap_alloc_new w _
    have x0 : W0.cell? ⟨w.heap.size, 0, none⟩ = some (.int .u8 2) := hbk0.cell 0
    have x1 : W0.cell? ⟨w.heap.size, 1, none⟩ = some (.string ⟨tt.toArray⟩) := hbk0.cell 1
    have x2 : W0.cell? ⟨w.heap.size, 2, none⟩ = some (.int .i64 n) := hbk0.cell 2
    have hW : Below w.heap.size w W0 := by rw [← hW0]; exact (Below.refl _ _).alloc (Nat.le_refl _) _
    have htb : w.heap.size < W0.heap.size := by rw [← hW0]; simp
    have HW := Lib.hid hW
    clear hbk0 hW
    have HNM := Lib.hid (rname_any tt true)
    have hmay : T.may ⟨2, tt, n, ⟨pa, pl, pc⟩⟩ = (T.name tt true && decide (n = 0)) := by (unfold T.may; rw [if_neg h1]; exact if_pos rfl)
    rw [hmay] at hR
    obtain ⟨N, hN⟩ : ∃ N, T.name tt true = N := ⟨_, rfl⟩
    rw [hN] at HNM hR
    have HR := Lib.hid hR.symm
    clear hmay hN hR
    go_enter Tryz.func29, Tryz.ntmps29
    go_wp2_with fail
    clear hW0
    refine (HNM.out _).mono ?_
    rintro _ w2 ⟨rfl, hb2⟩
    have y2 := (hb2.cell (p := ⟨w.heap.size, 2, none⟩) htb).trans x2
    have HB2 := Lib.hid hb2
    clear hb2
    cases N with
    | false =>
      go_wp2
      go_ret
      exact ⟨by rw [HR.out]; simp [], HW.out.trans (HB2.out.mono HW.out.size)⟩
    | true =>
      by_cases h0 : n = 0
      · have h0' : (n == 0) = true := by rw [beq_iff_eq]; exact h0
        go_wp2
        go_ret
        exact ⟨by rw [HR.out]; simp [h0], HW.out.trans (HB2.out.mono HW.out.size)⟩
      · have h0' : (n == 0) = false := by rw [beq_eq_false_iff_ne]; exact h0
        have H0 := Lib.hid h0
        clear h0
        go_wp2
        go_ret
        exact ⟨by rw [HR.out]; simp [H0.out], HW.out.trans (HB2.out.mono HW.out.size)⟩
  have k2 : (k == 2) = false := by rw [beq_eq_false_iff_ne]; exact h2
  by_cases h3 : k = 3
  · subst h3
    have hmay : T.may ⟨3, tt, n, ⟨pa, pl, pc⟩⟩ = (decide (0 ≤ n ∧ n ≤ 1099511627776) && decide (tt = [])) := by unfold T.may; rw [if_neg h1, if_neg h2]; exact if_pos rfl
    rw [hmay] at hR
    have HR := Lib.hid hR.symm
    clear hmay hR
    obtain ⟨W0, hW0⟩ : ∃ W0, w.alloc (.cells #[.int .u8 3, .string ⟨tt.toArray⟩, .int .i64 n, .int .i64 pa, .int .i64 pl, .int .i64 pc] 42) = W0 := ⟨_, rfl⟩
    have hbk0 : Blk W0 w.heap.size #[.int .u8 3, .string ⟨tt.toArray⟩, .int .i64 n, .int .i64 pa, .int .i64 pl, .int .i64 pc] 42 := by rw [← hW0]; exact heap_alloc_new w _
    have x0 : W0.cell? ⟨w.heap.size, 0, none⟩ = some (.int .u8 3) := hbk0.cell 0
    have x1 : W0.cell? ⟨w.heap.size, 1, none⟩ = some (.string ⟨tt.toArray⟩) := hbk0.cell 1
    have x2 : W0.cell? ⟨w.heap.size, 2, none⟩ = some (.int .i64 n) := hbk0.cell 2
    have hW : Below w.heap.size w W0 := by rw [← hW0]; exact (Below.refl _ _).alloc (Nat.le_refl _) _
    have htb : w.heap.size < W0.heap.size := by rw [← hW0]; simp
    have HW := Lib.hid hW
    clear hbk0 hW
    by_cases n0 : 0 ≤ n
    · by_cases n1 : n ≤ 1099511627776
      · by_cases ht : tt = []
        · subst ht
          go_enter Tryz.func29, Tryz.ntmps29
          go_wp2
          go_ret
          exact ⟨by rw [HR.out]; simp [n0, n1], HW.out.trans ((Below.refl W0.heap.size W0).mono HW.out.size)⟩
        · have hte : (tt == []) = false := by rw [beq_eq_false_iff_ne]; exact ht
          have HTE := Lib.hid ht
          clear ht
          go_enter Tryz.func29, Tryz.ntmps29
          go_wp2
          go_ret
          exact ⟨by rw [HR.out]; simp [HTE.out], HW.out.trans ((Below.refl W0.heap.size W0).mono HW.out.size)⟩
      · go_enter Tryz.func29, Tryz.ntmps29
        go_wp2
        go_ret
        exact ⟨by rw [HR.out]; simp ; (intros; omega), HW.out.trans ((Below.refl W0.heap.size W0).mono HW.out.size)⟩
    · go_enter Tryz.func29, Tryz.ntmps29
      go_wp2
      go_ret
      exact ⟨by rw [HR.out]; simp ; (intros; omega), HW.out.trans ((Below.refl W0.heap.size W0).mono HW.out.size)⟩
  have k3 : (k == 3) = false := by rw [beq_eq_false_iff_ne]; exact h3
  by_cases h4 : k = 4
  · subst h4
    have hmay : T.may ⟨4, tt, n, ⟨pa, pl, pc⟩⟩ = (T.whole tt && decide (n = 0)) := by unfold T.may; rw [if_neg h1, if_neg h2, if_neg h3]; exact if_pos rfl
    rw [hmay] at hR
    obtain ⟨W0, hW0⟩ : ∃ W0, w.alloc (.cells #[.int .u8 4, .string ⟨tt.toArray⟩, .int .i64 n, .int .i64 pa, .int .i64 pl, .int .i64 pc] 42) = W0 := ⟨_, rfl⟩
    have hbk0 : Blk W0 w.heap.size #[.int .u8 4, .string ⟨tt.toArray⟩, .int .i64 n, .int .i64 pa, .int .i64 pl, .int .i64 pc] 42 := by rw [← hW0]; exact heap_alloc_new w _
    have x0 : W0.cell? ⟨w.heap.size, 0, none⟩ = some (.int .u8 4) := hbk0.cell 0
    have x1 : W0.cell? ⟨w.heap.size, 1, none⟩ = some (.string ⟨tt.toArray⟩) := hbk0.cell 1
    have x2 : W0.cell? ⟨w.heap.size, 2, none⟩ = some (.int .i64 n) := hbk0.cell 2
    have hW : Below w.heap.size w W0 := by rw [← hW0]; exact (Below.refl _ _).alloc (Nat.le_refl _) _
    have htb : w.heap.size < W0.heap.size := by rw [← hW0]; simp
    have HW := Lib.hid hW
    clear hbk0 hW
    have HNM := Lib.hid (fun W => rtexts_any tt W hl)
    obtain ⟨N, hN⟩ : ∃ N, T.whole tt = N := ⟨_, rfl⟩
    rw [hN] at HNM hR
    have HR := Lib.hid hR.symm
    clear hmay hN hR
    go_enter Tryz.func29, Tryz.ntmps29
    go_wp2_with fail
    clear hW0
    refine (HNM.out _).mono ?_
    rintro _ w2 ⟨rfl, hb2⟩
    have y2 := (hb2.cell (p := ⟨w.heap.size, 2, none⟩) htb).trans x2
    have HB2 := Lib.hid hb2
    clear hb2
    cases N with
    | false =>
      go_wp2
      go_ret
      exact ⟨by rw [HR.out]; simp [], HW.out.trans (HB2.out.mono HW.out.size)⟩
    | true =>
      by_cases h0 : n = 0
      · have h0' : (n == 0) = true := by rw [beq_iff_eq]; exact h0
        go_wp2
        go_ret
        exact ⟨by rw [HR.out]; simp [h0], HW.out.trans (HB2.out.mono HW.out.size)⟩
      · have h0' : (n == 0) = false := by rw [beq_eq_false_iff_ne]; exact h0
        have H0 := Lib.hid h0
        clear h0
        go_wp2
        go_ret
        exact ⟨by rw [HR.out]; simp [H0.out], HW.out.trans (HB2.out.mono HW.out.size)⟩
  have k4 : (k == 4) = false := by rw [beq_eq_false_iff_ne]; exact h4
  have hn0 : (n = 0 ∧ (n == 0) = true) ∨ (¬ n = 0 ∧ (n == 0) = false) := by
    by_cases h : n = 0
    · exact .inl ⟨h, by rw [beq_iff_eq]; exact h⟩
    · exact .inr ⟨h, by rw [beq_eq_false_iff_ne]; exact h⟩
  by_cases h5 : k = 5
  · subst h5
    have hmay : T.may ⟨5, tt, n, ⟨pa, pl, pc⟩⟩ = ((T.words.contains tt || T.signs.contains tt) && decide (n = 0)) := by unfold T.may; rw [if_neg h1, if_neg h2, if_neg h3, if_neg h4]; exact if_pos rfl
    rw [hmay] at hR
    obtain ⟨W0, hW0⟩ : ∃ W0, w.alloc (.cells #[.int .u8 5, .string ⟨tt.toArray⟩, .int .i64 n, .int .i64 pa, .int .i64 pl, .int .i64 pc] 42) = W0 := ⟨_, rfl⟩
    have hbk0 : Blk W0 w.heap.size #[.int .u8 5, .string ⟨tt.toArray⟩, .int .i64 n, .int .i64 pa, .int .i64 pl, .int .i64 pc] 42 := by rw [← hW0]; exact heap_alloc_new w _
    have x0 : W0.cell? ⟨w.heap.size, 0, none⟩ = some (.int .u8 5) := hbk0.cell 0
    have x1 : W0.cell? ⟨w.heap.size, 1, none⟩ = some (.string ⟨tt.toArray⟩) := hbk0.cell 1
    have x2 : W0.cell? ⟨w.heap.size, 2, none⟩ = some (.int .i64 n) := hbk0.cell 2
    have hW : Below w.heap.size w W0 := by rw [← hW0]; exact (Below.refl _ _).alloc (Nat.le_refl _) _
    have htb : w.heap.size < W0.heap.size := by rw [← hW0]; simp
    have HW := Lib.hid hW
    clear hbk0 hW
    have HH1 := Lib.hid (fun A W (hA : StrAt W A T.words) => rhas_any A 6 T.words tt W hA rfl (by omega))
    have HH2 := Lib.hid (fun A W (hA : StrAt W A T.signs) => rhas_any A 22 T.signs tt W hA rfl (by omega))
    obtain ⟨C1, hC1⟩ : ∃ N, T.words.contains tt = N := ⟨_, rfl⟩
    obtain ⟨C2, hC2⟩ : ∃ N, T.signs.contains tt = N := ⟨_, rfl⟩
    rw [hC1] at HH1 hR
    rw [hC2] at HH2 hR
    have HR := Lib.hid hR.symm
    clear hmay hC1 hC2 hR
    go_enter Tryz.func29, Tryz.ntmps29
    go_wp2_with fail
    clear hW0
    refine wp_region_held_drew (S := SM W0 w.heap.size tt n) (by kernel_rfl) (show SM W0 w.heap.size tt n W0.drew from ⟨⟨x1, x2⟩, htb, (Below.refl _ _).drew⟩) (fun hHeld => ?_)
    refine sd_take (i := 1) (d := 53) (v := ?_) rfl rfl (by kernel_rfl) (by kernel_rfl) (by kernel_rfl) (fun _ _ _ h => h) (Or.inl ⟨by rfl, ?_⟩) (by assumption) ?_
    rotate_left 1
    · (rintro w ⟨⟨c1, c2⟩, _⟩; go_simp; try with_reducible rfl)
    simp only [Act.put, List.setIfInBounds_toArray, List.set_cons_zero, List.set_cons_succ]
    refine sd_take (i := 2) (d := 54) (v := ?_) rfl rfl (by kernel_rfl) (by kernel_rfl) (by kernel_rfl) (fun _ _ _ h => h) (Or.inl ⟨by rfl, ?_⟩) (by assumption) ?_
    rotate_left 1
    · (rintro w ⟨⟨c1, c2⟩, _⟩; go_simp; try with_reducible rfl)
    simp only [Act.put, List.setIfInBounds_toArray, List.set_cons_zero, List.set_cons_succ]
    refine wpAnyH_ready (rs := [0]) (by kernel_rfl) (by simp) ?_
    refine AllReadyH.cons (o := _) rfl (fun K hK => ?_) AllReadyH.nil
    go_simp
    refine (rwords_any _).mono ?_
    rintro _ w2 ⟨A, rfl, hA, hb2⟩
    go_wp2_with fail
    refine hK.out _ _ (SM.call hHeld hb2) (fun hH => ?_)
    clear hK K
    refine wpAnyH_ready (rs := [3]) (by kernel_rfl) (by simp) ?_
    refine AllReadyH.cons (o := _) rfl (fun K hK => ?_) AllReadyH.nil
    go_simp
    refine (HH1.out A _ hA).mono ?_
    rintro _ _ ⟨rfl, rfl⟩
    go_wp2_with fail
    refine hK.out _ _ hH (fun hH => ?_)
    clear hK K
    refine sd_take (i := 4) (d := 56) (v := ?_) rfl rfl (by kernel_rfl) (by kernel_rfl) (by kernel_rfl) (fun _ _ _ h => h) (Or.inl ⟨by rfl, ?_⟩) (by assumption) ?_
    rotate_left 1
    · (rintro w ⟨⟨c1, c2⟩, _⟩; go_simp; try with_reducible rfl)
    simp only [Act.put, List.setIfInBounds_toArray, List.set_cons_zero, List.set_cons_succ]
    cases C1 with
    | true =>
      refine sd_take (i := 5) (d := 57) (v := undef) rfl rfl (by kernel_rfl) (by kernel_rfl) (by kernel_rfl) (fun _ _ _ h => h) (Or.inr ⟨by rfl, rfl⟩) (by assumption) ?_
      simp only [Act.put, List.setIfInBounds_toArray, List.set_cons_zero, List.set_cons_succ]
      refine sd_take (i := 6) (d := 58) (v := undef) rfl rfl (by kernel_rfl) (by kernel_rfl) (by kernel_rfl) (fun _ _ _ h => h) (Or.inr ⟨by rfl, rfl⟩) (by assumption) ?_
      simp only [Act.put, List.setIfInBounds_toArray, List.set_cons_zero, List.set_cons_succ]
      refine sd_take (i := 7) (d := 59) (v := undef) rfl rfl (by kernel_rfl) (by kernel_rfl) (by kernel_rfl) (fun _ _ _ h => h) (Or.inr ⟨by rfl, rfl⟩) (by assumption) ?_
      simp only [Act.put, List.setIfInBounds_toArray, List.set_cons_zero, List.set_cons_succ]
      refine sd_take (i := 8) (d := 60) (v := undef) rfl rfl (by kernel_rfl) (by kernel_rfl) (by kernel_rfl) (fun _ _ _ h => h) (Or.inr ⟨by rfl, rfl⟩) (by assumption) ?_
      simp only [Act.put, List.setIfInBounds_toArray, List.set_cons_zero, List.set_cons_succ]
      refine sd_take (i := 9) (d := 61) (v := ?_) rfl rfl (by kernel_rfl) (by kernel_rfl) (by kernel_rfl) (fun _ _ _ h => h) (Or.inl ⟨by rfl, ?_⟩) (by assumption) ?_
      rotate_left 1
      · (rintro w ⟨⟨c1, c2⟩, _⟩; go_simp; try with_reducible rfl)
      simp only [Act.put, List.setIfInBounds_toArray, List.set_cons_zero, List.set_cons_succ]
      refine sd_take (i := 10) (d := 62) (v := ?_) rfl rfl (by kernel_rfl) (by kernel_rfl) (by kernel_rfl) (fun _ _ _ h => h) (Or.inl ⟨by rfl, ?_⟩) (by assumption) ?_
      rotate_left 1
      · (rintro w ⟨⟨c1, c2⟩, _⟩; go_simp; try with_reducible rfl)
      simp only [Act.put, List.setIfInBounds_toArray, List.set_cons_zero, List.set_cons_succ]
      refine sd_take (i := 11) (d := 63) (v := ?_) rfl rfl (by kernel_rfl) (by kernel_rfl) (by kernel_rfl) (fun _ _ _ h => h) (Or.inl ⟨by rfl, ?_⟩) (by assumption) ?_
      rotate_left 1
      · (rintro w ⟨⟨c1, c2⟩, _⟩; go_simp; try with_reducible rfl)
      simp only [Act.put, List.setIfInBounds_toArray, List.set_cons_zero, List.set_cons_succ]
      refine sd_take (i := 12) (d := 64) (v := ?_) rfl rfl (by kernel_rfl) (by kernel_rfl) (by kernel_rfl) (fun _ _ _ h => h) (Or.inl ⟨by rfl, ?_⟩) (by assumption) ?_
      rotate_left 1
      · (rintro w ⟨⟨c1, c2⟩, _⟩; go_simp; try with_reducible rfl)
      simp only [Act.put, List.setIfInBounds_toArray, List.set_cons_zero, List.set_cons_succ]
      rcases hn0 with ⟨h0, h0'⟩ | ⟨h0, h0'⟩
      · have H0 := Lib.hid h0
        clear h0
        refine sd_take (i := 13) (d := 65) (v := ?_) rfl rfl (by kernel_rfl) (by kernel_rfl) (by kernel_rfl) (fun _ _ _ h => h) (Or.inl ⟨by rfl, ?_⟩) (by assumption) ?_
        rotate_left 1
        · (rintro w ⟨⟨c1, c2⟩, _⟩; go_simp; try with_reducible rfl)
        simp only [Act.put, List.setIfInBounds_toArray, List.set_cons_zero, List.set_cons_succ]
        refine sd_take (i := 14) (d := 66) (v := ?_) rfl rfl (by kernel_rfl) (by kernel_rfl) (by kernel_rfl) (fun _ _ _ h => h) (Or.inl ⟨by rfl, ?_⟩) (by assumption) ?_
        rotate_left 1
        · (rintro w ⟨⟨c1, c2⟩, _⟩; go_simp; try with_reducible rfl)
        simp only [Act.put, List.setIfInBounds_toArray, List.set_cons_zero, List.set_cons_succ]
        refine sd_take (i := 15) (d := 2) (v := ?_) rfl rfl (by kernel_rfl) (by kernel_rfl) (by kernel_rfl) (fun _ _ _ h => h) (Or.inl ⟨by rfl, ?_⟩) (by assumption) ?_
        rotate_left 1
        · (rintro w ⟨⟨c1, c2⟩, _⟩; go_simp; try with_reducible rfl)
        simp only [Act.put, List.setIfInBounds_toArray, List.set_cons_zero, List.set_cons_succ]
        refine wpAnyH_done (by kernel_rfl) ?_ _
        go_wp2
        go_ret
        exact ⟨by rw [HR.out]; simp [H0.out], HW.out.trans (hH.2.2.mono HW.out.size)⟩
      · have H0 := Lib.hid h0
        clear h0
        refine sd_take (i := 13) (d := 65) (v := ?_) rfl rfl (by kernel_rfl) (by kernel_rfl) (by kernel_rfl) (fun _ _ _ h => h) (Or.inl ⟨by rfl, ?_⟩) (by assumption) ?_
        rotate_left 1
        · (rintro w ⟨⟨c1, c2⟩, _⟩; go_simp; try with_reducible rfl)
        simp only [Act.put, List.setIfInBounds_toArray, List.set_cons_zero, List.set_cons_succ]
        refine sd_take (i := 14) (d := 66) (v := ?_) rfl rfl (by kernel_rfl) (by kernel_rfl) (by kernel_rfl) (fun _ _ _ h => h) (Or.inl ⟨by rfl, ?_⟩) (by assumption) ?_
        rotate_left 1
        · (rintro w ⟨⟨c1, c2⟩, _⟩; go_simp; try with_reducible rfl)
        simp only [Act.put, List.setIfInBounds_toArray, List.set_cons_zero, List.set_cons_succ]
        refine sd_take (i := 15) (d := 2) (v := ?_) rfl rfl (by kernel_rfl) (by kernel_rfl) (by kernel_rfl) (fun _ _ _ h => h) (Or.inl ⟨by rfl, ?_⟩) (by assumption) ?_
        rotate_left 1
        · (rintro w ⟨⟨c1, c2⟩, _⟩; go_simp; try with_reducible rfl)
        simp only [Act.put, List.setIfInBounds_toArray, List.set_cons_zero, List.set_cons_succ]
        refine wpAnyH_done (by kernel_rfl) ?_ _
        go_wp2
        go_ret
        exact ⟨by rw [HR.out]; simp [H0.out], HW.out.trans (hH.2.2.mono HW.out.size)⟩
    | false =>
      refine sd_take (i := 6) (d := 58) (v := ?_) rfl rfl (by kernel_rfl) (by kernel_rfl) (by kernel_rfl) (fun _ _ _ h => h) (Or.inl ⟨by rfl, ?_⟩) (by assumption) ?_
      rotate_left 1
      · (rintro w ⟨⟨c1, c2⟩, _⟩; go_simp; try with_reducible rfl)
      simp only [Act.put, List.setIfInBounds_toArray, List.set_cons_zero, List.set_cons_succ]
      refine sd_take (i := 7) (d := 59) (v := ?_) rfl rfl (by kernel_rfl) (by kernel_rfl) (by kernel_rfl) (fun _ _ _ h => h) (Or.inl ⟨by rfl, ?_⟩) (by assumption) ?_
      rotate_left 1
      · (rintro w ⟨⟨c1, c2⟩, _⟩; go_simp; try with_reducible rfl)
      simp only [Act.put, List.setIfInBounds_toArray, List.set_cons_zero, List.set_cons_succ]
      refine wpAnyH_ready (rs := [5]) (by kernel_rfl) (by simp) ?_
      refine AllReadyH.cons (o := _) rfl (fun K hK => ?_) AllReadyH.nil
      go_simp
      refine (rsigns_any _).mono ?_
      rintro _ w3 ⟨A2, rfl, hA2, hb3⟩
      go_wp2_with fail
      refine hK.out _ _ (SM.call hH hb3) (fun hH => ?_)
      clear hK K
      refine wpAnyH_ready (rs := [8]) (by kernel_rfl) (by simp) ?_
      refine AllReadyH.cons (o := _) rfl (fun K hK => ?_) AllReadyH.nil
      go_simp
      refine (HH2.out A2 _ hA2).mono ?_
      rintro _ _ ⟨rfl, rfl⟩
      go_wp2_with fail
      refine hK.out _ _ hH (fun hH => ?_)
      clear hK K
      refine sd_take (i := 9) (d := 61) (v := ?_) rfl rfl (by kernel_rfl) (by kernel_rfl) (by kernel_rfl) (fun _ _ _ h => h) (Or.inl ⟨by rfl, ?_⟩) (by assumption) ?_
      rotate_left 1
      · (rintro w ⟨⟨c1, c2⟩, _⟩; go_simp; try with_reducible rfl)
      simp only [Act.put, List.setIfInBounds_toArray, List.set_cons_zero, List.set_cons_succ]
      refine sd_take (i := 10) (d := 62) (v := ?_) rfl rfl (by kernel_rfl) (by kernel_rfl) (by kernel_rfl) (fun _ _ _ h => h) (Or.inl ⟨by rfl, ?_⟩) (by assumption) ?_
      rotate_left 1
      · (rintro w ⟨⟨c1, c2⟩, _⟩; go_simp; try with_reducible rfl)
      simp only [Act.put, List.setIfInBounds_toArray, List.set_cons_zero, List.set_cons_succ]
      cases C2 with
      | false =>
        refine sd_take (i := 11) (d := 63) (v := undef) rfl rfl (by kernel_rfl) (by kernel_rfl) (by kernel_rfl) (fun _ _ _ h => h) (Or.inr ⟨by rfl, rfl⟩) (by assumption) ?_
        simp only [Act.put, List.setIfInBounds_toArray, List.set_cons_zero, List.set_cons_succ]
        refine sd_take (i := 12) (d := 64) (v := undef) rfl rfl (by kernel_rfl) (by kernel_rfl) (by kernel_rfl) (fun _ _ _ h => h) (Or.inr ⟨by rfl, rfl⟩) (by assumption) ?_
        simp only [Act.put, List.setIfInBounds_toArray, List.set_cons_zero, List.set_cons_succ]
        refine sd_take (i := 13) (d := 65) (v := undef) rfl rfl (by kernel_rfl) (by kernel_rfl) (by kernel_rfl) (fun _ _ _ h => h) (Or.inr ⟨by rfl, rfl⟩) (by assumption) ?_
        simp only [Act.put, List.setIfInBounds_toArray, List.set_cons_zero, List.set_cons_succ]
        refine sd_take (i := 14) (d := 66) (v := ?_) rfl rfl (by kernel_rfl) (by kernel_rfl) (by kernel_rfl) (fun _ _ _ h => h) (Or.inl ⟨by rfl, ?_⟩) (by assumption) ?_
        rotate_left 1
        · (rintro w ⟨⟨c1, c2⟩, _⟩; go_simp; try with_reducible rfl)
        simp only [Act.put, List.setIfInBounds_toArray, List.set_cons_zero, List.set_cons_succ]
        refine sd_take (i := 15) (d := 2) (v := ?_) rfl rfl (by kernel_rfl) (by kernel_rfl) (by kernel_rfl) (fun _ _ _ h => h) (Or.inl ⟨by rfl, ?_⟩) (by assumption) ?_
        rotate_left 1
        · (rintro w ⟨⟨c1, c2⟩, _⟩; go_simp; try with_reducible rfl)
        simp only [Act.put, List.setIfInBounds_toArray, List.set_cons_zero, List.set_cons_succ]
        refine wpAnyH_done (by kernel_rfl) ?_ _
        go_wp2
        go_ret
        exact ⟨by rw [HR.out]; simp [], HW.out.trans (hH.2.2.mono HW.out.size)⟩
      | true =>
        refine sd_take (i := 11) (d := 63) (v := ?_) rfl rfl (by kernel_rfl) (by kernel_rfl) (by kernel_rfl) (fun _ _ _ h => h) (Or.inl ⟨by rfl, ?_⟩) (by assumption) ?_
        rotate_left 1
        · (rintro w ⟨⟨c1, c2⟩, _⟩; go_simp; try with_reducible rfl)
        simp only [Act.put, List.setIfInBounds_toArray, List.set_cons_zero, List.set_cons_succ]
        refine sd_take (i := 12) (d := 64) (v := ?_) rfl rfl (by kernel_rfl) (by kernel_rfl) (by kernel_rfl) (fun _ _ _ h => h) (Or.inl ⟨by rfl, ?_⟩) (by assumption) ?_
        rotate_left 1
        · (rintro w ⟨⟨c1, c2⟩, _⟩; go_simp; try with_reducible rfl)
        simp only [Act.put, List.setIfInBounds_toArray, List.set_cons_zero, List.set_cons_succ]
        rcases hn0 with ⟨h0, h0'⟩ | ⟨h0, h0'⟩
        · have H0 := Lib.hid h0
          clear h0
          refine sd_take (i := 13) (d := 65) (v := ?_) rfl rfl (by kernel_rfl) (by kernel_rfl) (by kernel_rfl) (fun _ _ _ h => h) (Or.inl ⟨by rfl, ?_⟩) (by assumption) ?_
          rotate_left 1
          · (rintro w ⟨⟨c1, c2⟩, _⟩; go_simp; try with_reducible rfl)
          simp only [Act.put, List.setIfInBounds_toArray, List.set_cons_zero, List.set_cons_succ]
          refine sd_take (i := 14) (d := 66) (v := ?_) rfl rfl (by kernel_rfl) (by kernel_rfl) (by kernel_rfl) (fun _ _ _ h => h) (Or.inl ⟨by rfl, ?_⟩) (by assumption) ?_
          rotate_left 1
          · (rintro w ⟨⟨c1, c2⟩, _⟩; go_simp; try with_reducible rfl)
          simp only [Act.put, List.setIfInBounds_toArray, List.set_cons_zero, List.set_cons_succ]
          refine sd_take (i := 15) (d := 2) (v := ?_) rfl rfl (by kernel_rfl) (by kernel_rfl) (by kernel_rfl) (fun _ _ _ h => h) (Or.inl ⟨by rfl, ?_⟩) (by assumption) ?_
          rotate_left 1
          · (rintro w ⟨⟨c1, c2⟩, _⟩; go_simp; try with_reducible rfl)
          simp only [Act.put, List.setIfInBounds_toArray, List.set_cons_zero, List.set_cons_succ]
          refine wpAnyH_done (by kernel_rfl) ?_ _
          go_wp2
          go_ret
          exact ⟨by rw [HR.out]; simp [H0.out], HW.out.trans (hH.2.2.mono HW.out.size)⟩
        · have H0 := Lib.hid h0
          clear h0
          refine sd_take (i := 13) (d := 65) (v := ?_) rfl rfl (by kernel_rfl) (by kernel_rfl) (by kernel_rfl) (fun _ _ _ h => h) (Or.inl ⟨by rfl, ?_⟩) (by assumption) ?_
          rotate_left 1
          · (rintro w ⟨⟨c1, c2⟩, _⟩; go_simp; try with_reducible rfl)
          simp only [Act.put, List.setIfInBounds_toArray, List.set_cons_zero, List.set_cons_succ]
          refine sd_take (i := 14) (d := 66) (v := ?_) rfl rfl (by kernel_rfl) (by kernel_rfl) (by kernel_rfl) (fun _ _ _ h => h) (Or.inl ⟨by rfl, ?_⟩) (by assumption) ?_
          rotate_left 1
          · (rintro w ⟨⟨c1, c2⟩, _⟩; go_simp; try with_reducible rfl)
          simp only [Act.put, List.setIfInBounds_toArray, List.set_cons_zero, List.set_cons_succ]
          refine sd_take (i := 15) (d := 2) (v := ?_) rfl rfl (by kernel_rfl) (by kernel_rfl) (by kernel_rfl) (fun _ _ _ h => h) (Or.inl ⟨by rfl, ?_⟩) (by assumption) ?_
          rotate_left 1
          · (rintro w ⟨⟨c1, c2⟩, _⟩; go_simp; try with_reducible rfl)
          simp only [Act.put, List.setIfInBounds_toArray, List.set_cons_zero, List.set_cons_succ]
          refine wpAnyH_done (by kernel_rfl) ?_ _
          go_wp2
          go_ret
          exact ⟨by rw [HR.out]; simp [H0.out], HW.out.trans (hH.2.2.mono HW.out.size)⟩
  have k5 : (k == 5) = false := by rw [beq_eq_false_iff_ne]; exact h5
  by_cases h6 : k = 6
  · subst h6
    have hmay : T.may ⟨6, tt, n, ⟨pa, pl, pc⟩⟩ = (T.prims.contains tt && decide (n = 0)) := by unfold T.may; rw [if_neg h1, if_neg h2, if_neg h3, if_neg h4, if_neg h5]; exact if_pos rfl
    rw [hmay] at hR
    obtain ⟨W0, hW0⟩ : ∃ W0, w.alloc (.cells #[.int .u8 6, .string ⟨tt.toArray⟩, .int .i64 n, .int .i64 pa, .int .i64 pl, .int .i64 pc] 42) = W0 := ⟨_, rfl⟩
    have hbk0 : Blk W0 w.heap.size #[.int .u8 6, .string ⟨tt.toArray⟩, .int .i64 n, .int .i64 pa, .int .i64 pl, .int .i64 pc] 42 := by rw [← hW0]; exact heap_alloc_new w _
    have x0 : W0.cell? ⟨w.heap.size, 0, none⟩ = some (.int .u8 6) := hbk0.cell 0
    have x1 : W0.cell? ⟨w.heap.size, 1, none⟩ = some (.string ⟨tt.toArray⟩) := hbk0.cell 1
    have x2 : W0.cell? ⟨w.heap.size, 2, none⟩ = some (.int .i64 n) := hbk0.cell 2
    have hW : Below w.heap.size w W0 := by rw [← hW0]; exact (Below.refl _ _).alloc (Nat.le_refl _) _
    have htb : w.heap.size < W0.heap.size := by rw [← hW0]; simp
    have HW := Lib.hid hW
    clear hbk0 hW
    have HH1 := Lib.hid (fun A W (hA : StrAt W A T.prims) => rhas_any A 10 T.prims tt W hA rfl (by omega))
    obtain ⟨C1, hC1⟩ : ∃ N, T.prims.contains tt = N := ⟨_, rfl⟩
    rw [hC1] at HH1 hR
    have HR := Lib.hid hR.symm
    clear hmay hC1 hR
    go_enter Tryz.func29, Tryz.ntmps29
    go_wp2_with fail
    clear hW0
    refine wp_region_held_drew (S := SM W0 w.heap.size tt n) (by kernel_rfl) (show SM W0 w.heap.size tt n W0.drew from ⟨⟨x1, x2⟩, htb, (Below.refl _ _).drew⟩) (fun hHeld => ?_)
    refine sd_take (i := 1) (d := 70) (v := ?_) rfl rfl (by kernel_rfl) (by kernel_rfl) (by kernel_rfl) (fun _ _ _ h => h) (Or.inl ⟨by rfl, ?_⟩) (by assumption) ?_
    rotate_left 1
    · (rintro w ⟨⟨c1, c2⟩, _⟩; go_simp; try with_reducible rfl)
    simp only [Act.put, List.setIfInBounds_toArray, List.set_cons_zero, List.set_cons_succ]
    refine sd_take (i := 2) (d := 71) (v := ?_) rfl rfl (by kernel_rfl) (by kernel_rfl) (by kernel_rfl) (fun _ _ _ h => h) (Or.inl ⟨by rfl, ?_⟩) (by assumption) ?_
    rotate_left 1
    · (rintro w ⟨⟨c1, c2⟩, _⟩; go_simp; try with_reducible rfl)
    simp only [Act.put, List.setIfInBounds_toArray, List.set_cons_zero, List.set_cons_succ]
    refine wpAnyH_ready (rs := [0]) (by kernel_rfl) (by simp) ?_
    refine AllReadyH.cons (o := _) rfl (fun K hK => ?_) AllReadyH.nil
    go_simp
    refine (rprims_any _).mono ?_
    rintro _ w2 ⟨A, rfl, hA, hb2⟩
    go_wp2_with fail
    refine hK.out _ _ (SM.call hHeld hb2) (fun hH => ?_)
    clear hK K
    refine wpAnyH_ready (rs := [3]) (by kernel_rfl) (by simp) ?_
    refine AllReadyH.cons (o := _) rfl (fun K hK => ?_) AllReadyH.nil
    go_simp
    refine (HH1.out A _ hA).mono ?_
    rintro _ _ ⟨rfl, rfl⟩
    go_wp2_with fail
    refine hK.out _ _ hH (fun hH => ?_)
    clear hK K
    refine sd_take (i := 4) (d := 73) (v := ?_) rfl rfl (by kernel_rfl) (by kernel_rfl) (by kernel_rfl) (fun _ _ _ h => h) (Or.inl ⟨by rfl, ?_⟩) (by assumption) ?_
    rotate_left 1
    · (rintro w ⟨⟨c1, c2⟩, _⟩; go_simp; try with_reducible rfl)
    simp only [Act.put, List.setIfInBounds_toArray, List.set_cons_zero, List.set_cons_succ]
    cases C1 with
    | false =>
      refine sd_take (i := 5) (d := 74) (v := undef) rfl rfl (by kernel_rfl) (by kernel_rfl) (by kernel_rfl) (fun _ _ _ h => h) (Or.inr ⟨by rfl, rfl⟩) (by assumption) ?_
      simp only [Act.put, List.setIfInBounds_toArray, List.set_cons_zero, List.set_cons_succ]
      refine sd_take (i := 6) (d := 75) (v := undef) rfl rfl (by kernel_rfl) (by kernel_rfl) (by kernel_rfl) (fun _ _ _ h => h) (Or.inr ⟨by rfl, rfl⟩) (by assumption) ?_
      simp only [Act.put, List.setIfInBounds_toArray, List.set_cons_zero, List.set_cons_succ]
      refine sd_take (i := 7) (d := 76) (v := undef) rfl rfl (by kernel_rfl) (by kernel_rfl) (by kernel_rfl) (fun _ _ _ h => h) (Or.inr ⟨by rfl, rfl⟩) (by assumption) ?_
      simp only [Act.put, List.setIfInBounds_toArray, List.set_cons_zero, List.set_cons_succ]
      refine sd_take (i := 8) (d := 77) (v := ?_) rfl rfl (by kernel_rfl) (by kernel_rfl) (by kernel_rfl) (fun _ _ _ h => h) (Or.inl ⟨by rfl, ?_⟩) (by assumption) ?_
      rotate_left 1
      · (rintro w ⟨⟨c1, c2⟩, _⟩; go_simp; try with_reducible rfl)
      simp only [Act.put, List.setIfInBounds_toArray, List.set_cons_zero, List.set_cons_succ]
      refine sd_take (i := 9) (d := 2) (v := ?_) rfl rfl (by kernel_rfl) (by kernel_rfl) (by kernel_rfl) (fun _ _ _ h => h) (Or.inl ⟨by rfl, ?_⟩) (by assumption) ?_
      rotate_left 1
      · (rintro w ⟨⟨c1, c2⟩, _⟩; go_simp; try with_reducible rfl)
      simp only [Act.put, List.setIfInBounds_toArray, List.set_cons_zero, List.set_cons_succ]
      refine wpAnyH_done (by kernel_rfl) ?_ _
      go_wp2
      go_ret
      exact ⟨by rw [HR.out]; simp [], HW.out.trans (hH.2.2.mono HW.out.size)⟩
    | true =>
      refine sd_take (i := 5) (d := 74) (v := ?_) rfl rfl (by kernel_rfl) (by kernel_rfl) (by kernel_rfl) (fun _ _ _ h => h) (Or.inl ⟨by rfl, ?_⟩) (by assumption) ?_
      rotate_left 1
      · (rintro w ⟨⟨c1, c2⟩, _⟩; go_simp; try with_reducible rfl)
      simp only [Act.put, List.setIfInBounds_toArray, List.set_cons_zero, List.set_cons_succ]
      refine sd_take (i := 6) (d := 75) (v := ?_) rfl rfl (by kernel_rfl) (by kernel_rfl) (by kernel_rfl) (fun _ _ _ h => h) (Or.inl ⟨by rfl, ?_⟩) (by assumption) ?_
      rotate_left 1
      · (rintro w ⟨⟨c1, c2⟩, _⟩; go_simp; try with_reducible rfl)
      simp only [Act.put, List.setIfInBounds_toArray, List.set_cons_zero, List.set_cons_succ]
      rcases hn0 with ⟨h0, h0'⟩ | ⟨h0, h0'⟩
      · have H0 := Lib.hid h0
        clear h0
        refine sd_take (i := 7) (d := 76) (v := ?_) rfl rfl (by kernel_rfl) (by kernel_rfl) (by kernel_rfl) (fun _ _ _ h => h) (Or.inl ⟨by rfl, ?_⟩) (by assumption) ?_
        rotate_left 1
        · (rintro w ⟨⟨c1, c2⟩, _⟩; go_simp; try with_reducible rfl)
        simp only [Act.put, List.setIfInBounds_toArray, List.set_cons_zero, List.set_cons_succ]
        refine sd_take (i := 8) (d := 77) (v := ?_) rfl rfl (by kernel_rfl) (by kernel_rfl) (by kernel_rfl) (fun _ _ _ h => h) (Or.inl ⟨by rfl, ?_⟩) (by assumption) ?_
        rotate_left 1
        · (rintro w ⟨⟨c1, c2⟩, _⟩; go_simp; try with_reducible rfl)
        simp only [Act.put, List.setIfInBounds_toArray, List.set_cons_zero, List.set_cons_succ]
        refine sd_take (i := 9) (d := 2) (v := ?_) rfl rfl (by kernel_rfl) (by kernel_rfl) (by kernel_rfl) (fun _ _ _ h => h) (Or.inl ⟨by rfl, ?_⟩) (by assumption) ?_
        rotate_left 1
        · (rintro w ⟨⟨c1, c2⟩, _⟩; go_simp; try with_reducible rfl)
        simp only [Act.put, List.setIfInBounds_toArray, List.set_cons_zero, List.set_cons_succ]
        refine wpAnyH_done (by kernel_rfl) ?_ _
        go_wp2
        go_ret
        exact ⟨by rw [HR.out]; simp [H0.out], HW.out.trans (hH.2.2.mono HW.out.size)⟩
      · have H0 := Lib.hid h0
        clear h0
        refine sd_take (i := 7) (d := 76) (v := ?_) rfl rfl (by kernel_rfl) (by kernel_rfl) (by kernel_rfl) (fun _ _ _ h => h) (Or.inl ⟨by rfl, ?_⟩) (by assumption) ?_
        rotate_left 1
        · (rintro w ⟨⟨c1, c2⟩, _⟩; go_simp; try with_reducible rfl)
        simp only [Act.put, List.setIfInBounds_toArray, List.set_cons_zero, List.set_cons_succ]
        refine sd_take (i := 8) (d := 77) (v := ?_) rfl rfl (by kernel_rfl) (by kernel_rfl) (by kernel_rfl) (fun _ _ _ h => h) (Or.inl ⟨by rfl, ?_⟩) (by assumption) ?_
        rotate_left 1
        · (rintro w ⟨⟨c1, c2⟩, _⟩; go_simp; try with_reducible rfl)
        simp only [Act.put, List.setIfInBounds_toArray, List.set_cons_zero, List.set_cons_succ]
        refine sd_take (i := 9) (d := 2) (v := ?_) rfl rfl (by kernel_rfl) (by kernel_rfl) (by kernel_rfl) (fun _ _ _ h => h) (Or.inl ⟨by rfl, ?_⟩) (by assumption) ?_
        rotate_left 1
        · (rintro w ⟨⟨c1, c2⟩, _⟩; go_simp; try with_reducible rfl)
        simp only [Act.put, List.setIfInBounds_toArray, List.set_cons_zero, List.set_cons_succ]
        refine wpAnyH_done (by kernel_rfl) ?_ _
        go_wp2
        go_ret
        exact ⟨by rw [HR.out]; simp [H0.out], HW.out.trans (hH.2.2.mono HW.out.size)⟩
  have k6 : (k == 6) = false := by rw [beq_eq_false_iff_ne]; exact h6
  have hmay : T.may ⟨k, tt, n, ⟨pa, pl, pc⟩⟩ = false := by unfold T.may; rw [if_neg h1, if_neg h2, if_neg h3, if_neg h4, if_neg h5]; exact if_neg h6
  rw [hmay] at hR
  have HR := Lib.hid hR.symm
  clear hmay hR hn0 h1 h2 h3 h4 h5 h6
  obtain ⟨W0, hW0⟩ : ∃ W0, w.alloc (.cells #[.int .u8 k, .string ⟨tt.toArray⟩, .int .i64 n, .int .i64 pa, .int .i64 pl, .int .i64 pc] 42) = W0 := ⟨_, rfl⟩
  have hbk0 : Blk W0 w.heap.size #[.int .u8 k, .string ⟨tt.toArray⟩, .int .i64 n, .int .i64 pa, .int .i64 pl, .int .i64 pc] 42 := by rw [← hW0]; exact heap_alloc_new w _
  have x0 : W0.cell? ⟨w.heap.size, 0, none⟩ = some (.int .u8 k) := hbk0.cell 0
  have x1 : W0.cell? ⟨w.heap.size, 1, none⟩ = some (.string ⟨tt.toArray⟩) := hbk0.cell 1
  have x2 : W0.cell? ⟨w.heap.size, 2, none⟩ = some (.int .i64 n) := hbk0.cell 2
  have hW : Below w.heap.size w W0 := by rw [← hW0]; exact (Below.refl _ _).alloc (Nat.le_refl _) _
  have htb : w.heap.size < W0.heap.size := by rw [← hW0]; simp
  have HW := Lib.hid hW
  clear hbk0 hW
  go_enter Tryz.func29, Tryz.ntmps29
  go_wp2
  go_ret
  exact ⟨by rw [HR.out]; simp [], HW.out.trans ((Below.refl W0.heap.size W0).mono HW.out.size)⟩
end Go.Proofs.YtaojgcioljcpmaaGreatDoor
namespace Go.Proofs.YtaojgcioljcpmaaGreatDoor
open Go.RowKit

theorem str_app (a b : List UInt8) : (⟨a.toArray⟩ : ByteArray) ++ ⟨b.toArray⟩ = ⟨(a ++ b).toArray⟩ := by
  apply ByteArray.ext
  apply Array.toList_inj.1
  simp [ByteArray.data_append]
theorem joined_step_le (l : List T.Tok) (i : Nat) : (T.joined (l.take i)).length ≤ (T.joined (l.take (i + 1))).length := by
  by_cases h : i < l.length
  · rw [joined_take l i h, List.length_append]; omega
  · rw [List.take_of_length_le (by omega), List.take_of_length_le (by omega)]; exact Nat.le_refl _
theorem joined_le (l : List T.Tok) (i : Nat) : (T.joined (l.take i)).length ≤ (T.joined l).length := by
  have h : ∀ k, (T.joined (l.take i)).length ≤ (T.joined (l.take (i + k))).length := by
    intro k
    induction k with
    | zero => exact Nat.le_refl _
    | succ k ih => exact Nat.le_trans ih (joined_step_le l (i + k))
  have := h l.length
  rwa [List.take_of_length_le (show l.length ≤ i + l.length by omega)] at this
theorem may_three {tt : List UInt8} {n : Int} {p : U.Pos} (h : T.may ⟨3, tt, n, p⟩ = true) : 0 ≤ n ∧ n ≤ 4611686018427387904 := by
  have hmay : T.may ⟨3, tt, n, p⟩ = (decide (0 ≤ n ∧ n ≤ 1099511627776) && decide (tt = [])) := by unfold T.may; rw [if_neg (show ¬ (3 : Int) = 1 by decide), if_neg (show ¬ (3 : Int) = 2 by decide)]; exact if_pos rfl
  rw [hmay, Bool.and_eq_true, decide_eq_true_eq] at h
  omega
theorem all_at {l : List T.Tok} (h : l.all T.may = true) (i : Nat) (hi : i < l.length) : T.may (l[i]'hi) = true := List.all_eq_true.1 h _ (List.getElem_mem hi)
set_option maxRecDepth 50000 in
set_option maxHeartbeats 4000000 in
theorem rwrite_any (l : List T.Tok) (a : Option Addr) (m c : Nat) (w : World) (hm : l.length = m) (hmm : m ≤ 1000000) (hok : ∀ t ∈ l, TokOk t)
    (hrow : Row w w.heap.size 6 (.slice a m c) m (toksCells l)) :
    Calls Tryz.prog 11 #[.slice a m c] w fun e w' => e = .returned (.tuple #[.string ⟨(T.write l).1.toArray⟩, .int .i64 (T.write l).2]) ∧ Below w.heap.size w w' := by
  have hwr : ∀ (b : Bool) (J : List UInt8), l.all T.may = b → T.joined l = J → T.write l = if b = true then (if 4000 < J.length then ([], 3) else (J, 0)) else ([], 2) := by
    intro b J hb hJ
    unfold T.write
    rw [hb, hJ]
  obtain ⟨R, hR⟩ : ∃ R, T.write l = R := ⟨_, rfl⟩
  rw [hR] at hwr ⊢
  have HWR := Lib.hid hwr
  have HM := Lib.hid hm
  have HOK := Lib.hid hok
  have HROW := Lib.hid hrow
  clear hwr hR hm hok hrow
  go_enter Tryz.func11, Tryz.ntmps11
  go_wp2
  go_loopw [4] (fun u wr => ∃ i : Nat, u = .int .i64 i ∧ i ≤ m ∧ (l.take i).all T.may = true ∧ Below w.heap.size w wr) (fun u _ => m - (intOf u).toNat)
  case atStart => exact ⟨0, rfl, Nat.zero_le _, rfl, Below.refl _ _⟩
  case round =>
    obtain ⟨i, rfl, hi, hall, hbe⟩ := hrel
    have hse := hbe.size
    have HALL := Lib.hid hall
    clear hall
    by_cases hlt : i < m
    · skip
      have hil : i < l.length := by rw [HM.out]; exact hlt
      obtain ⟨g, off, rfl, hg, hc, d0, d1, d2, d3, d4, d5⟩ := row_tok HROW.out HM.out i hil
      have hto := HOK.out _ (List.getElem_mem hil)
      have hx := all_take l i hil
      obtain ⟨x, hxx⟩ : ∃ x, l[i]'hil = x := ⟨_, rfl⟩
      rw [hxx] at d0 d1 d2 d3 d4 d5 hto hx
      obtain ⟨k, tt, n, ⟨pa, pl, pc⟩⟩ := x
      obtain ⟨ht1, ht2, ht3⟩ := hto
      simp only at d0 d1 d2 d3 d4 d5 ht1 ht2 ht3
      have e0 := (hbe.cell (p := ⟨g, off + i * 6, none⟩) hg).trans d0
      have e1 := (hbe.cell (p := ⟨g, off + i * 6 + 1, none⟩) hg).trans d1
      have e2 := (hbe.cell (p := ⟨g, off + i * 6 + 2, none⟩) hg).trans d2
      have e3 := (hbe.cell (p := ⟨g, off + i * 6 + 3, none⟩) hg).trans d3
      have e4 : wr.cell? ⟨g, off + i * 6 + 3 + 1, none⟩ = _ := (hbe.cell (p := ⟨g, off + i * 6 + 4, none⟩) hg).trans d4
      have e5 : wr.cell? ⟨g, off + i * 6 + 3 + 2, none⟩ = _ := (hbe.cell (p := ⟨g, off + i * 6 + 5, none⟩) hg).trans d5
      clear d0 d1 d2 d3 d4 d5
      have hmay := fun (W : World) => rmay_any k tt n pa pl pc W ht1
      obtain ⟨B, hB⟩ : ∃ B, T.may ⟨k, tt, n, ⟨pa, pl, pc⟩⟩ = B := ⟨_, rfl⟩
      rw [hB] at hx
      rw [hB] at hmay
      have HMAY := Lib.hid hmay
      have HX := Lib.hid hx
      have HBE := Lib.hid hbe
      clear hmay hx hB hxx hbe
      have him : (i : Int) < (m : Int) := by omega
      go_wp2_with fail
      refine (HMAY.out _).mono ?_
      rintro _ w2 ⟨rfl, hb2⟩
      have HB2 := Lib.hid (below_call HBE.out hb2)
      clear hb2
      cases B with
      | false =>
        have hR := HWR.out false _ (all_of_take l (i + 1) (by rw [HX.out, Bool.and_false])) rfl
        rw [if_neg (by decide)] at hR
        subst hR
        go_wp2
        go_ret2
        exact ⟨rfl, HB2.out⟩
      | true =>
        go_wp2
        exact ⟨⟨i + 1, by rw [Int.natCast_add]; rfl, hlt, by rw [HX.out, HALL.out]; rfl, HB2.out⟩, by simp [intOf]; omega⟩
    · have hmi : i = m := by omega
      have him : ¬ (i : Int) < (m : Int) := by omega
      have htk : l.all T.may = true := by
        have := HALL.out
        rwa [List.take_of_length_le (by rw [HM.out]; omega)] at this
      have HTK := Lib.hid htk
      have HBE0 := Lib.hid hbe
      clear hmi htk hbe hse HALL
      go_wp2
      go_loopw [6, 5] (fun u v wr => ∃ (i : Nat) (P : List UInt8), u = .int .i64 i ∧ v = .string ⟨P.toArray⟩ ∧ i ≤ m ∧ P = T.joined (l.take i) ∧ P.length ≤ 2101200 ∧ Below w.heap.size w wr) (fun u _ _ => m - (intOf u).toNat)
      case atStart => exact ⟨0, [], rfl, rfl, Nat.zero_le _, rfl, Nat.zero_le _, HBE0.out⟩
      case round =>
        obtain ⟨i, P, rfl, rfl, hi, hP, hPl, hbe⟩ := hrel
        have hse := hbe.size
        have HP := Lib.hid hP
        clear hP
        by_cases hlt : i < m
        · by_cases h4 : P.length ≤ 4000
          · skip
            have hil : i < l.length := by rw [HM.out]; exact hlt
            obtain ⟨g, off, rfl, hg, hc, d0, d1, d2, d3, d4, d5⟩ := row_tok HROW.out HM.out i hil
            have hto := HOK.out _ (List.getElem_mem hil)
            have hx := all_at HTK.out i hil
            obtain ⟨x, hxx⟩ : ∃ x, l[i]'hil = x := ⟨_, rfl⟩
            rw [hxx] at d0 d1 d2 d3 d4 d5 hto hx
            obtain ⟨k, tt, n, ⟨pa, pl, pc⟩⟩ := x
            obtain ⟨ht1, ht2, ht3⟩ := hto
            simp only at d0 d1 d2 d3 d4 d5 ht1 ht2 ht3
            have e0 := (hbe.cell (p := ⟨g, off + i * 6, none⟩) hg).trans d0
            have e1 := (hbe.cell (p := ⟨g, off + i * 6 + 1, none⟩) hg).trans d1
            have e2 := (hbe.cell (p := ⟨g, off + i * 6 + 2, none⟩) hg).trans d2
            have e3 := (hbe.cell (p := ⟨g, off + i * 6 + 3, none⟩) hg).trans d3
            have e4 : wr.cell? ⟨g, off + i * 6 + 3 + 1, none⟩ = _ := (hbe.cell (p := ⟨g, off + i * 6 + 4, none⟩) hg).trans d4
            have e5 : wr.cell? ⟨g, off + i * 6 + 3 + 2, none⟩ = _ := (hbe.cell (p := ⟨g, off + i * 6 + 5, none⟩) hg).trans d5
            clear d0 d1 d2 d3 d4 d5
            have hjn := joined_take l i hil
            rw [hxx, ← HP.out] at hjn
            have hone := fun (W : World) => rput_any k tt n pa pl pc W ht1 (fun h3 => by subst h3; exact may_three hx)
            have hol := one_len2 ⟨k, tt, n, ⟨pa, pl, pc⟩⟩ ⟨ht2, ht3⟩
            obtain ⟨O, hO⟩ : ∃ O, T.one ⟨k, tt, n, ⟨pa, pl, pc⟩⟩ = O := ⟨_, rfl⟩
            rw [hO] at hjn
            rw [hO] at hone hol
            have hol2 : O.length ≤ 2097174 := by simp only at hol; omega
            have HONE := Lib.hid hone
            have HJN := Lib.hid hjn
            have HBE := Lib.hid hbe
            clear hone hjn hO hxx hbe hx hol
            have him : (i : Int) < (m : Int) := by omega
            have h4' : (P.length : Int) ≤ 4000 := by omega
            by_cases h0 : i = 0
            · have hi0 : ¬ (0 : Int) < (i : Int) := by omega
              have hs1 : ¬ 9223372036854775807 < P.length + O.length := by omega
              have HJ := Lib.hid (show T.joined (l.take (i + 1)) = P ++ O by rw [HJN.out, if_pos h0]; rfl)
              clear h0
              go_wp2_with fail
              refine (HONE.out _).mono ?_
              rintro _ w2 ⟨rfl, hb2⟩
              have HB2 := Lib.hid (below_call HBE.out hb2)
              clear hb2
              go_wp2
              exact ⟨⟨i + 1, P ++ O, by rw [Int.natCast_add]; rfl, by rw [str_app], hlt, HJ.out.symm, by rw [List.length_append]; omega, HB2.out⟩, by simp [intOf]; omega⟩
            · have hi0 : (0 : Int) < (i : Int) := by omega
              have hs0 : ¬ 9223372036854775807 < P.length + 1 := by omega
              have hs1 : ¬ 9223372036854775807 < P.length + 1 + O.length := by omega
              have HJ := Lib.hid (show T.joined (l.take (i + 1)) = P ++ [32] ++ O by rw [HJN.out, if_neg h0, List.append_assoc])
              clear h0
              go_wp2_with fail
              refine (HONE.out _).mono ?_
              rintro _ w2 ⟨rfl, hb2⟩
              have HB2 := Lib.hid (below_call HBE.out hb2)
              clear hb2
              go_wp2
              exact ⟨⟨i + 1, P ++ [32] ++ O, by rw [Int.natCast_add]; rfl, by rw [← str_app, ← str_app], hlt, HJ.out.symm, by rw [List.length_append, List.length_append]; simp; omega, HB2.out⟩, by simp [intOf]; omega⟩
          · have him : (i : Int) < (m : Int) := by omega
            have h4' : ¬ (P.length : Int) ≤ 4000 := by omega
            have hlen := joined_le l i
            rw [← HP.out] at hlen
            have h1 := HWR.out true _ HTK.out rfl
            rw [if_pos rfl, if_pos (by omega)] at h1
            subst h1
            have h4'' : (4000 : Int) < (P.length : Int) := by omega
            clear hlen
            go_wp2
            go_ret2
            exact ⟨rfl, hbe⟩
        · have him : ¬ (i : Int) < (m : Int) := by omega
          have hPf : P = T.joined l := by rw [HP.out, List.take_of_length_le (by rw [HM.out]; omega)]
          have h1 := HWR.out true _ HTK.out rfl
          rw [if_pos rfl, ← hPf] at h1
          clear hPf
          by_cases h4 : 4000 < P.length
          · rw [if_pos h4] at h1
            subst h1
            have h4' : (4000 : Int) < (P.length : Int) := by omega
            go_wp2
            go_ret2
            exact ⟨rfl, hbe⟩
          · rw [if_neg h4] at h1
            subst h1
            have h4' : ¬ (4000 : Int) < (P.length : Int) := by omega
            go_wp2
            go_ret2
            exact ⟨rfl, hbe⟩

set_option maxRecDepth 50000 in
set_option maxHeartbeats 4000000 in
theorem LexWrites_walk (G : Nat) (l : List T.Tok) (a : Option Addr) (m c : Nat) (w : World) (hT : Tabs G w) (hm : l.length = m) (hmm : m ≤ 100000000) (hok : ∀ t ∈ l, TokOk t)
    (hrow : Row w w.heap.size 6 (.slice a m c) m (toksCells l)) :
    Calls Tryz.prog 3 #[.slice a m c] w fun e w' => e = .returned (.bool true) ∧ Below w.heap.size w w' := by
  have HK := Lib.hid (known_any G w hT)
  have HTAB := Lib.hid (fun (W : World) (h : Below w.heap.size w W) => hT.below (h.mono hT.le))
  have HM := Lib.hid hm
  have HOK := Lib.hid hok
  have HROW := Lib.hid hrow
  clear hT hm hok hrow
  go_enter Tryz.func3, Tryz.ntmps3
  go_wp2_with fail
  refine HK.out.mono ?_
  rintro _ w0 ⟨rfl, hb0⟩
  have R0 := Lib.hid (HROW.out.step hb0)
  have HB0 := Lib.hid hb0
  clear hb0
  go_wp2_with fail
  refine (great_any l a m c w0 HM.out hmm HOK.out R0.out).mono ?_
  rintro _ w1 ⟨hg, hb1⟩
  have R1 := Lib.hid (R0.out.step hb1)
  have HB1 := Lib.hid (below_call HB0.out hb1)
  clear hb1
  rcases hg with ⟨rfl, hm2⟩ | rfl
  · obtain ⟨⟨J, E1⟩, hJ⟩ : ∃ R, T.write l = R := ⟨_, rfl⟩
    have HJ := Lib.hid hJ
    clear hJ
    go_wp2_with fail
    refine (write_any G l a m c w1 (HTAB.out _ HB1.out) HM.out (by omega) HOK.out R1.out).mono ?_
    rw [HJ.out]
    rintro _ w2 ⟨rfl, hb2⟩
    have R2 := Lib.hid (R1.out.step hb2)
    have HB2 := Lib.hid (below_call HB1.out hb2)
    clear hb2
    go_wp2_with fail
    refine (rwrite_any l a m c w2 HM.out (by omega) HOK.out R2.out).mono ?_
    rw [HJ.out]
    rintro _ w3 ⟨rfl, hb3⟩
    have HB3 := Lib.hid (below_call HB2.out hb3)
    clear hb3
    go_wp2
    go_ret
    refine ⟨rfl, ?_⟩
    (repeat (with_reducible first | exact HB3.out | refine Below.setCell ?_ ?_ _ | refine Below.alloc ?_ ?_ _ | refine Below.drewN ?_ _ | refine Below.drew ?_)) <;> first | omega | (simp; omega) | (simp; done)
  · go_wp2
    go_ret
    refine ⟨rfl, ?_⟩
    (repeat (with_reducible first | exact HB1.out | refine Below.setCell ?_ ?_ _ | refine Below.alloc ?_ ?_ _ | refine Below.drewN ?_ _ | refine Below.drew ?_)) <;> first | omega | (simp; omega) | (simp; done)
end Go.Proofs.YtaojgcioljcpmaaGreatDoor
