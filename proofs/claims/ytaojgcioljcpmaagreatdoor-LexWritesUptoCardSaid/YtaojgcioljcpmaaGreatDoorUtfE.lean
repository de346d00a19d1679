/- The reference's One: the code point that a text begins with at a place. -/
import Derived.Test.YtaojgcioljcpmaaGreatDoorUtfD
import Derived.Deep.RegionHeld3
import Derived.Deep.DeepCutAuto
namespace Go.Proofs.YtaojgcioljcpmaaGreatDoor
open Go.RowKit
namespace U

/-- byte i of a list, as a number -/
def bz (b : List UInt8) (i : Nat) : Int := (b.getD i 0).toNat
/-- what the first w bytes come to -/
def val (b : List UInt8) : Nat → Int
  | 1 => bz b 0
  | 2 => (bz b 0 - 192) * 64 + bz b 1 - 128
  | 3 => ((bz b 0 - 224) * 64 + bz b 1 - 128) * 64 + bz b 2 - 128
  | _ => (((bz b 0 - 240) * 64 + bz b 1 - 128) * 64 + bz b 2 - 128) * 64 + bz b 3 - 128
def hit (b : List UInt8) (w : Nat) : Prop := w ≤ b.length ∧ Go.Lib.validRune (val b w) = true ∧ Go.Lib.encodeRune (val b w) = b.take w

theorem hit_dec (b : List UInt8) (w : Nat) (h : hit b w) : bad b = false ∧ ((dec b).1 : Int) = val b w := by
  obtain ⟨h1, h2, h3⟩ := h
  have e : b = Go.Lib.encodeRune (val b w) ++ b.drop w := by rw [h3]; exact (List.take_append_drop w b).symm
  have hd := dec_enc (val b w) (b.drop w) h2
  have hb := bad_enc (val b w) (b.drop w) h2
  rw [← e] at hd hb
  refine ⟨hb, ?_⟩
  rw [hd]
  rw [valid_iff] at h2
  simp only
  omega

theorem bz_take (b : List UInt8) (n i : Nat) (h : i < n) : bz (b.take n) i = bz b i := by
  unfold bz
  rw [List.getD_eq_getElem?_getD, List.getD_eq_getElem?_getD, List.getElem?_take_of_lt h]

theorem dec_hit (b : List UInt8) (hb : 0 < b.length) (h : bad b = false) : hit b (dec b).2 := by
  obtain ⟨h1, h2, h3⟩ := enc_dec b hb h
  have hle := dec_le b
  obtain ⟨r, hr⟩ : ∃ r : Int, ((dec b).1 : Int) = r := ⟨_, rfl⟩
  obtain ⟨z, hz⟩ : ∃ z, (dec b).2 = z := ⟨_, rfl⟩
  rw [hr] at h1 h2
  rw [hz] at h2 h3 hle ⊢
  have hlen := congrArg List.length h2
  rw [List.length_take] at hlen
  have hl := enc_len_of r h1
  have e0 : ∀ i, i < z → bz b i = bz (Go.Lib.encodeRune r) i := fun i hi => by rw [h2]; exact (bz_take b z i hi).symm
  have hv : val b z = r := by
    have h1' := h1
    rw [valid_iff] at h1'
    by_cases a1 : r ≤ 127
    · have e : Go.Lib.encodeRune r = [r.toNat.toUInt8] := by rw [Go.Lib.encodeRune, Go.Lib.encodeRuneZ_one (by omega) a1]; rfl
      rw [e] at e0 hlen
      obtain rfl : z = 1 := by simp at hlen; omega
      have := e0 0 (by omega)
      have u := u8_nat r.toNat (by omega)
      simp only [val]; rw [this]; simp only [bz, List.getD_cons_zero, u]; omega
    by_cases a2 : r ≤ 2047
    · have e : Go.Lib.encodeRune r = [(192 + r / 64).toNat.toUInt8, (128 + r % 64).toNat.toUInt8] := by rw [Go.Lib.encodeRune, Go.Lib.encodeRuneZ_two (by omega) a2]; rfl
      rw [e] at e0 hlen
      obtain rfl : z = 2 := by simp at hlen; omega
      have p0 := e0 0 (by omega)
      have p1 := e0 1 (by omega)
      have u0 := u8_nat (192 + r / 64).toNat (by omega)
      have u1 := u8_nat (128 + r % 64).toNat (by omega)
      simp only [val]; rw [p0, p1]; simp only [bz, List.getD_cons_zero, List.getD_cons_succ, u0, u1]; omega
    by_cases a3 : r ≤ 65535
    · have e : Go.Lib.encodeRune r = [(224 + r / 4096).toNat.toUInt8, (128 + r / 64 % 64).toNat.toUInt8, (128 + r % 64).toNat.toUInt8] := by rw [Go.Lib.encodeRune, Go.Lib.encodeRuneZ_three (by omega)]; rfl
      rw [e] at e0 hlen
      obtain rfl : z = 3 := by simp at hlen; omega
      have p0 := e0 0 (by omega)
      have p1 := e0 1 (by omega)
      have p2 := e0 2 (by omega)
      have u0 := u8_nat (224 + r / 4096).toNat (by omega)
      have u1 := u8_nat (128 + r / 64 % 64).toNat (by omega)
      have u2 := u8_nat (128 + r % 64).toNat (by omega)
      simp only [val]; rw [p0, p1, p2]; simp only [bz, List.getD_cons_zero, List.getD_cons_succ, u0, u1, u2]; omega
    · have e : Go.Lib.encodeRune r = [(240 + r / 262144).toNat.toUInt8, (128 + r / 4096 % 64).toNat.toUInt8, (128 + r / 64 % 64).toNat.toUInt8, (128 + r % 64).toNat.toUInt8] := by rw [Go.Lib.encodeRune, Go.Lib.encodeRuneZ_four (by omega) (by omega)]; rfl
      rw [e] at e0 hlen
      obtain rfl : z = 4 := by simp at hlen; omega
      have p0 := e0 0 (by omega)
      have p1 := e0 1 (by omega)
      have p2 := e0 2 (by omega)
      have p3 := e0 3 (by omega)
      have u0 := u8_nat (240 + r / 262144).toNat (by omega)
      have u1 := u8_nat (128 + r / 4096 % 64).toNat (by omega)
      have u2 := u8_nat (128 + r / 64 % 64).toNat (by omega)
      have u3 := u8_nat (128 + r % 64).toNat (by omega)
      simp only [val]; rw [p0, p1, p2, p3]; simp only [bz, List.getD_cons_zero, List.getD_cons_succ, u0, u1, u2, u3]; omega
  exact ⟨h3, by rw [hv]; exact h1, by rw [hv]; exact h2⟩

/-- what One tells -/
def one (b : List UInt8) : Int := if bad b then -1 else (dec b).1
theorem one_hit (b : List UInt8) (w : Nat) (h : hit b w) : one b = val b w := by
  obtain ⟨h1, h2⟩ := hit_dec b w h
  simp [one, h1, h2]
theorem one_none (b : List UInt8) (hb : 0 < b.length) (h : ∀ w, 1 ≤ w → w ≤ 4 → ¬ hit b w) : one b = -1 := by
  unfold one
  by_cases hx : bad b = true
  · simp [hx]
  · have hx' : bad b = false := by simpa using hx
    have := dec_le b
    exact absurd (dec_hit b hb hx') (h _ (by omega) (by omega))
end U

set_option maxHeartbeats 209715200 in
theorem utfOne_any (s : ByteArray) (i : Nat) (w : World) (hs : s.size ≤ 2097152) (hi : i < s.size) :
    Calls Tryz.prog 71 #[.string s, .int .i64 i] w fun e w' => e = .returned (.int .i64 (U.one (s.data.toList.drop i))) ∧ Below w.heap.size w w' := by
  obtain ⟨b, hb⟩ : ∃ b, s.data.toList.drop i = b := ⟨_, rfl⟩
  rw [hb]
  have hbl : b.length = s.size - i := by rw [← hb, List.length_drop, Array.length_toList]; rfl
  have hbyte : ∀ k (h : i + k < s.size), ((s[i + k]'h).toNat : Int) = U.bz b k := fun k h => by
    have h1 := U.get_drop s i k
    rw [hb] at h1
    have h2 : s.get! (i + k) = s[i + k]'h := Utf8W.get!_of_lt s (i + k) h
    rw [← h2, h1]; rfl
  have hbz : ∀ k, 0 ≤ U.bz b k ∧ U.bz b k < 256 := fun k => by unfold U.bz; have := (b.getD k 0).toNat_lt; omega
  go_enter Tryz.func71, Tryz.ntmps71
  go_wp2
  go_loopw [5] (fun u wr => ∃ k : Nat, 1 ≤ k ∧ k ≤ 5 ∧ u = .int .i64 k ∧ (∀ j, 1 ≤ j → j < k → ¬ U.hit b j) ∧ Below w.heap.size w wr) (fun u _ => 5 - (intOf u).toNat)
  case atStart => exact ⟨1, by omega, by omega, rfl, fun j h1 h2 => by omega, Below.refl _ _⟩
  case round =>
    obtain ⟨k, hk1, hk5, rfl, hno, hbel⟩ := hrel
    have HN := Lib.hid hno
    clear hno
    by_cases hend : k ≤ 4 ∧ i + k ≤ s.size
    · obtain ⟨hk4, hle⟩ := hend
      have hc : k = 1 ∨ k = 2 ∨ k = 3 ∨ k = 4 := by omega
      have hbz0 := hbz 0; have hbz1 := hbz 1; have hbz2 := hbz 2; have hbz3 := hbz 3
      have q0' := hbyte 0 (by omega)
      have HBY := Lib.hid hbyte
      clear hbyte hbz
      obtain ⟨c0, hc0⟩ : ∃ c, U.bz b 0 = c := ⟨_, rfl⟩
      have q0 : ((s[i]'hi).toNat : Int) = c0 := by rw [← hc0]; exact q0'
      rw [hc0] at hbz0
      obtain ⟨l0, u0⟩ := hbz0
      have hbE := Lib.hid hb
      clear q0' hb
      rcases hc with rfl | rfl | rfl | rfl
      · have hval : U.val b 1 = c0 := by simp only [U.val, hc0]
        have HV := Lib.hid hval
        clear hbz1 hbz2 hbz3
        clear hval hc0
        obtain ⟨nv, hnv⟩ : ∃ z, c0 = z := ⟨_, rfl⟩
        have HN2 := Lib.hid hnv
        have hexT : (s.extract i (i + 1)).toList = b.take 1 := by rw [Lib.toList_data, Lib.extract_data, hbE.out, show i + 1 - i = 1 from by omega]
        have HX := Lib.hid hexT
        clear hexT hnv
        have s1 : IntKind.i64.wrap ((i : Int) + 1) = (i : Int) + 1 := IntWalk.i64_in _ (by omega)
        have s2 : (0 : Int) ≤ (i : Int) + 1 := by omega
        have s3 : (i : Int) + 1 ≤ (s.size : Int) := by omega
        have s4 : (i : Int) ≤ (i : Int) + 1 := by omega
        have s5 : ((i : Int) + 1).toNat = i + 1 := by omega
        by_cases hvr : Lib.validRune (c0) = true
        · have mc : ∀ W : World, Calls Tryz.prog 95 #[.int .i64 (c0)] W fun e w' => e = .returned (.bool true) ∧ W = w' := fun W => by
            have := utfMay_any (c0) W; rwa [hvr] at this
          have HVR := Lib.hid hvr
          have bc := fun W => bytes_any (c0) W hvr
          have HB := Lib.hid bc
          clear hvr bc
          by_cases heq : (Lib.encodeRune (c0) == (s.extract i (i + 1)).toList) = true
          · go_wp2_with fail
            refine wp_loop_rounds 1 ?_
            rw [rounds_succ]
            go_wp2_with fail
            go_region_held3 (fun w' => Below w.heap.size w w') (first | assumption | (refine Below.drew ?_; assumption) | (refine below_call ?_ (by assumption); assumption)) (first | (go_at_call 95; refine (mc _).mono ?_; rintro e w2 ⟨rfl, rfl⟩) | (go_at_call 96; refine (HB.out _).mono ?_; rintro e w3 ⟨rfl, hb3⟩))
            all_goals go_wp2
            go_ret
            have hh : U.hit b 1 := ⟨by omega, by rw [HV.out]; exact HVR.out, by rw [HV.out, ← HX.out]; exact beq_iff_eq.1 heq⟩
            rw [U.one_hit b 1 hh, HV.out]
            exact ⟨rfl, by assumption⟩
          · have heq' : (Lib.encodeRune (c0) == (s.extract i (i + 1)).toList) = false := by simpa using heq
            go_wp2_with fail
            refine wp_loop_rounds 1 ?_
            rw [rounds_succ]
            go_wp2_with fail
            go_region_held3 (fun w' => Below w.heap.size w w') (first | assumption | (refine Below.drew ?_; assumption) | (refine below_call ?_ (by assumption); assumption)) (first | (go_at_call 95; refine (mc _).mono ?_; rintro e w2 ⟨rfl, rfl⟩) | (go_at_call 96; refine (HB.out _).mono ?_; rintro e w3 ⟨rfl, hb3⟩))
            all_goals go_wp2
            refine ⟨⟨2, by omega, by omega, rfl, fun j h1 h2 => ?_, by assumption⟩, by simp [intOf]⟩
            by_cases hj : j = 1
            · subst hj; intro hh; have h3 := hh.2.2; rw [HV.out, ← HX.out] at h3; rw [h3] at heq'; simp at heq'
            · exact HN.out j h1 (by omega)
        · have hvr' : Lib.validRune (c0) = false := by simpa using hvr
          have mc : ∀ W : World, Calls Tryz.prog 95 #[.int .i64 (c0)] W fun e w' => e = .returned (.bool false) ∧ w' = W := fun W => by
            have := utfMay_any (c0) W; rw [hvr'] at this; exact this.mono fun e w' h => ⟨h.1, h.2.symm⟩
          have HVR := Lib.hid hvr'
          clear hvr hvr'
          go_wp2_with fail
          refine wp_loop_rounds 1 ?_
          rw [rounds_succ]
          go_wp2_with fail
          go_quiet ((go_at_call 95; exact Calls.quiet_of_same (mc _)))
          go_wp2
          refine ⟨⟨2, by omega, by omega, rfl, fun j h1 h2 => ?_, Below.drewN hbel _⟩, by simp [intOf]⟩
          by_cases hj : j = 1
          · subst hj; intro hh; have h3 := hh.2.1; rw [HV.out, HVR.out] at h3; cases h3
          · exact HN.out j h1 (by omega)
      · have q1' := HBY.out 1 (by omega)
        obtain ⟨c1, hc1⟩ : ∃ c, U.bz b 1 = c := ⟨_, rfl⟩
        have q1 : ((s[i + 1]'(by omega)).toNat : Int) = c1 := by rw [← hc1]; exact q1'
        rw [hc1] at hbz1
        obtain ⟨l1, u1⟩ := hbz1
        clear q1'
        have hval : U.val b 2 = (c0 - 192) * 64 + c1 - 128 := by simp only [U.val, hc0, hc1]
        have HV := Lib.hid hval
        clear hbz2 hbz3
        clear hval hc0 hc1
        obtain ⟨nv, hnv⟩ : ∃ z, (c0 - 192) * 64 + c1 - 128 = z := ⟨_, rfl⟩
        have HN2 := Lib.hid hnv
        have hexT : (s.extract i (i + 2)).toList = b.take 2 := by rw [Lib.toList_data, Lib.extract_data, hbE.out, show i + 2 - i = 2 from by omega]
        have HX := Lib.hid hexT
        clear hexT hnv
        have s1 : IntKind.i64.wrap ((i : Int) + 2) = (i : Int) + 2 := IntWalk.i64_in _ (by omega)
        have s2 : (0 : Int) ≤ (i : Int) + 2 := by omega
        have s3 : (i : Int) + 2 ≤ (s.size : Int) := by omega
        have s4 : (i : Int) ≤ (i : Int) + 2 := by omega
        have s5 : ((i : Int) + 2).toNat = i + 2 := by omega
        have hbel2 : Below w.heap.size w (wr.alloc (.cells #[.int .i64 0, .int .i64 0, .int .i64 192, .int .i64 224, .int .i64 240] 3)) := hbel.alloc hbel.size _
        by_cases hvr : Lib.validRune ((c0 - 192) * 64 + c1 - 128) = true
        · have mc : ∀ W : World, Calls Tryz.prog 95 #[.int .i64 ((c0 - 192) * 64 + c1 - 128)] W fun e w' => e = .returned (.bool true) ∧ W = w' := fun W => by
            have := utfMay_any ((c0 - 192) * 64 + c1 - 128) W; rwa [hvr] at this
          have HVR := Lib.hid hvr
          have bc := fun W => bytes_any ((c0 - 192) * 64 + c1 - 128) W hvr
          have HB := Lib.hid bc
          clear hvr bc
          by_cases heq : (Lib.encodeRune ((c0 - 192) * 64 + c1 - 128) == (s.extract i (i + 2)).toList) = true
          · go_wp2_with fail
            refine wp_loop_rounds 2 ?_
            rw [rounds_succ]
            go_wp2_with fail
            rw [rounds_succ]
            go_wp2_with fail
            go_region_held3 (fun w' => Below w.heap.size w w') (first | assumption | (refine Below.drew ?_; assumption) | (refine below_call ?_ (by assumption); assumption)) (first | (go_at_call 95; refine (mc _).mono ?_; rintro e w2 ⟨rfl, rfl⟩) | (go_at_call 96; refine (HB.out _).mono ?_; rintro e w3 ⟨rfl, hb3⟩))
            all_goals go_wp2
            go_ret
            have hh : U.hit b 2 := ⟨by omega, by rw [HV.out]; exact HVR.out, by rw [HV.out, ← HX.out]; exact beq_iff_eq.1 heq⟩
            rw [U.one_hit b 2 hh, HV.out]
            exact ⟨rfl, by assumption⟩
          · have heq' : (Lib.encodeRune ((c0 - 192) * 64 + c1 - 128) == (s.extract i (i + 2)).toList) = false := by simpa using heq
            go_wp2_with fail
            refine wp_loop_rounds 2 ?_
            rw [rounds_succ]
            go_wp2_with fail
            rw [rounds_succ]
            go_wp2_with fail
            go_region_held3 (fun w' => Below w.heap.size w w') (first | assumption | (refine Below.drew ?_; assumption) | (refine below_call ?_ (by assumption); assumption)) (first | (go_at_call 95; refine (mc _).mono ?_; rintro e w2 ⟨rfl, rfl⟩) | (go_at_call 96; refine (HB.out _).mono ?_; rintro e w3 ⟨rfl, hb3⟩))
            all_goals go_wp2
            refine ⟨⟨3, by omega, by omega, rfl, fun j h1 h2 => ?_, by assumption⟩, by simp [intOf]⟩
            by_cases hj : j = 2
            · subst hj; intro hh; have h3 := hh.2.2; rw [HV.out, ← HX.out] at h3; rw [h3] at heq'; simp at heq'
            · exact HN.out j h1 (by omega)
        · have hvr' : Lib.validRune ((c0 - 192) * 64 + c1 - 128) = false := by simpa using hvr
          have mc : ∀ W : World, Calls Tryz.prog 95 #[.int .i64 ((c0 - 192) * 64 + c1 - 128)] W fun e w' => e = .returned (.bool false) ∧ w' = W := fun W => by
            have := utfMay_any ((c0 - 192) * 64 + c1 - 128) W; rw [hvr'] at this; exact this.mono fun e w' h => ⟨h.1, h.2.symm⟩
          have HVR := Lib.hid hvr'
          clear hvr hvr'
          go_wp2_with fail
          refine wp_loop_rounds 2 ?_
          rw [rounds_succ]
          go_wp2_with fail
          rw [rounds_succ]
          go_wp2_with fail
          go_quiet ((go_at_call 95; exact Calls.quiet_of_same (mc _)))
          go_wp2
          refine ⟨⟨3, by omega, by omega, rfl, fun j h1 h2 => ?_, Below.drewN hbel2 _⟩, by simp [intOf]⟩
          by_cases hj : j = 2
          · subst hj; intro hh; have h3 := hh.2.1; rw [HV.out, HVR.out] at h3; cases h3
          · exact HN.out j h1 (by omega)
      · have q1' := HBY.out 1 (by omega)
        obtain ⟨c1, hc1⟩ : ∃ c, U.bz b 1 = c := ⟨_, rfl⟩
        have q1 : ((s[i + 1]'(by omega)).toNat : Int) = c1 := by rw [← hc1]; exact q1'
        rw [hc1] at hbz1
        obtain ⟨l1, u1⟩ := hbz1
        clear q1'
        have q2' := HBY.out 2 (by omega)
        obtain ⟨c2, hc2⟩ : ∃ c, U.bz b 2 = c := ⟨_, rfl⟩
        have q2 : ((s[i + 2]'(by omega)).toNat : Int) = c2 := by rw [← hc2]; exact q2'
        rw [hc2] at hbz2
        obtain ⟨l2, u2⟩ := hbz2
        clear q2'
        have hval : U.val b 3 = ((c0 - 224) * 64 + c1 - 128) * 64 + c2 - 128 := by simp only [U.val, hc0, hc1, hc2]
        have HV := Lib.hid hval
        clear hbz3
        clear hval hc0 hc1 hc2
        obtain ⟨nv, hnv⟩ : ∃ z, ((c0 - 224) * 64 + c1 - 128) * 64 + c2 - 128 = z := ⟨_, rfl⟩
        have HN2 := Lib.hid hnv
        have hexT : (s.extract i (i + 3)).toList = b.take 3 := by rw [Lib.toList_data, Lib.extract_data, hbE.out, show i + 3 - i = 3 from by omega]
        have HX := Lib.hid hexT
        clear hexT hnv
        have s1 : IntKind.i64.wrap ((i : Int) + 3) = (i : Int) + 3 := IntWalk.i64_in _ (by omega)
        have s2 : (0 : Int) ≤ (i : Int) + 3 := by omega
        have s3 : (i : Int) + 3 ≤ (s.size : Int) := by omega
        have s4 : (i : Int) ≤ (i : Int) + 3 := by omega
        have s5 : ((i : Int) + 3).toNat = i + 3 := by omega
        have hbel2 : Below w.heap.size w (wr.alloc (.cells #[.int .i64 0, .int .i64 0, .int .i64 192, .int .i64 224, .int .i64 240] 3)) := hbel.alloc hbel.size _
        by_cases hvr : Lib.validRune (((c0 - 224) * 64 + c1 - 128) * 64 + c2 - 128) = true
        · have mc : ∀ W : World, Calls Tryz.prog 95 #[.int .i64 (((c0 - 224) * 64 + c1 - 128) * 64 + c2 - 128)] W fun e w' => e = .returned (.bool true) ∧ W = w' := fun W => by
            have := utfMay_any (((c0 - 224) * 64 + c1 - 128) * 64 + c2 - 128) W; rwa [hvr] at this
          have HVR := Lib.hid hvr
          have bc := fun W => bytes_any (((c0 - 224) * 64 + c1 - 128) * 64 + c2 - 128) W hvr
          have HB := Lib.hid bc
          clear hvr bc
          by_cases heq : (Lib.encodeRune (((c0 - 224) * 64 + c1 - 128) * 64 + c2 - 128) == (s.extract i (i + 3)).toList) = true
          · go_wp2_with fail
            refine wp_loop_rounds 3 ?_
            rw [rounds_succ]
            go_wp2_with fail
            rw [rounds_succ]
            go_wp2_with fail
            rw [rounds_succ]
            go_wp2_with fail
            go_region_held3 (fun w' => Below w.heap.size w w') (first | assumption | (refine Below.drew ?_; assumption) | (refine below_call ?_ (by assumption); assumption)) (first | (go_at_call 95; refine (mc _).mono ?_; rintro e w2 ⟨rfl, rfl⟩) | (go_at_call 96; refine (HB.out _).mono ?_; rintro e w3 ⟨rfl, hb3⟩))
            all_goals go_wp2
            go_ret
            have hh : U.hit b 3 := ⟨by omega, by rw [HV.out]; exact HVR.out, by rw [HV.out, ← HX.out]; exact beq_iff_eq.1 heq⟩
            rw [U.one_hit b 3 hh, HV.out]
            exact ⟨rfl, by assumption⟩
          · have heq' : (Lib.encodeRune (((c0 - 224) * 64 + c1 - 128) * 64 + c2 - 128) == (s.extract i (i + 3)).toList) = false := by simpa using heq
            go_wp2_with fail
            refine wp_loop_rounds 3 ?_
            rw [rounds_succ]
            go_wp2_with fail
            rw [rounds_succ]
            go_wp2_with fail
            rw [rounds_succ]
            go_wp2_with fail
            go_region_held3 (fun w' => Below w.heap.size w w') (first | assumption | (refine Below.drew ?_; assumption) | (refine below_call ?_ (by assumption); assumption)) (first | (go_at_call 95; refine (mc _).mono ?_; rintro e w2 ⟨rfl, rfl⟩) | (go_at_call 96; refine (HB.out _).mono ?_; rintro e w3 ⟨rfl, hb3⟩))
            all_goals go_wp2
            refine ⟨⟨4, by omega, by omega, rfl, fun j h1 h2 => ?_, by assumption⟩, by simp [intOf]⟩
            by_cases hj : j = 3
            · subst hj; intro hh; have h3 := hh.2.2; rw [HV.out, ← HX.out] at h3; rw [h3] at heq'; simp at heq'
            · exact HN.out j h1 (by omega)
        · have hvr' : Lib.validRune (((c0 - 224) * 64 + c1 - 128) * 64 + c2 - 128) = false := by simpa using hvr
          have mc : ∀ W : World, Calls Tryz.prog 95 #[.int .i64 (((c0 - 224) * 64 + c1 - 128) * 64 + c2 - 128)] W fun e w' => e = .returned (.bool false) ∧ w' = W := fun W => by
            have := utfMay_any (((c0 - 224) * 64 + c1 - 128) * 64 + c2 - 128) W; rw [hvr'] at this; exact this.mono fun e w' h => ⟨h.1, h.2.symm⟩
          have HVR := Lib.hid hvr'
          clear hvr hvr'
          go_wp2_with fail
          refine wp_loop_rounds 3 ?_
          rw [rounds_succ]
          go_wp2_with fail
          rw [rounds_succ]
          go_wp2_with fail
          rw [rounds_succ]
          go_wp2_with fail
          go_quiet ((go_at_call 95; exact Calls.quiet_of_same (mc _)))
          go_wp2
          refine ⟨⟨4, by omega, by omega, rfl, fun j h1 h2 => ?_, Below.drewN hbel2 _⟩, by simp [intOf]⟩
          by_cases hj : j = 3
          · subst hj; intro hh; have h3 := hh.2.1; rw [HV.out, HVR.out] at h3; cases h3
          · exact HN.out j h1 (by omega)
      · have q1' := HBY.out 1 (by omega)
        obtain ⟨c1, hc1⟩ : ∃ c, U.bz b 1 = c := ⟨_, rfl⟩
        have q1 : ((s[i + 1]'(by omega)).toNat : Int) = c1 := by rw [← hc1]; exact q1'
        rw [hc1] at hbz1
        obtain ⟨l1, u1⟩ := hbz1
        clear q1'
        have q2' := HBY.out 2 (by omega)
        obtain ⟨c2, hc2⟩ : ∃ c, U.bz b 2 = c := ⟨_, rfl⟩
        have q2 : ((s[i + 2]'(by omega)).toNat : Int) = c2 := by rw [← hc2]; exact q2'
        rw [hc2] at hbz2
        obtain ⟨l2, u2⟩ := hbz2
        clear q2'
        have q3' := HBY.out 3 (by omega)
        obtain ⟨c3, hc3⟩ : ∃ c, U.bz b 3 = c := ⟨_, rfl⟩
        have q3 : ((s[i + 3]'(by omega)).toNat : Int) = c3 := by rw [← hc3]; exact q3'
        rw [hc3] at hbz3
        obtain ⟨l3, u3⟩ := hbz3
        clear q3'
        have hval : U.val b 4 = (((c0 - 240) * 64 + c1 - 128) * 64 + c2 - 128) * 64 + c3 - 128 := by simp only [U.val, hc0, hc1, hc2, hc3]
        have HV := Lib.hid hval
        skip
        clear hval hc0 hc1 hc2 hc3
        obtain ⟨nv, hnv⟩ : ∃ z, (((c0 - 240) * 64 + c1 - 128) * 64 + c2 - 128) * 64 + c3 - 128 = z := ⟨_, rfl⟩
        have HN2 := Lib.hid hnv
        have hexT : (s.extract i (i + 4)).toList = b.take 4 := by rw [Lib.toList_data, Lib.extract_data, hbE.out, show i + 4 - i = 4 from by omega]
        have HX := Lib.hid hexT
        clear hexT hnv
        have s1 : IntKind.i64.wrap ((i : Int) + 4) = (i : Int) + 4 := IntWalk.i64_in _ (by omega)
        have s2 : (0 : Int) ≤ (i : Int) + 4 := by omega
        have s3 : (i : Int) + 4 ≤ (s.size : Int) := by omega
        have s4 : (i : Int) ≤ (i : Int) + 4 := by omega
        have s5 : ((i : Int) + 4).toNat = i + 4 := by omega
        have hbel2 : Below w.heap.size w (wr.alloc (.cells #[.int .i64 0, .int .i64 0, .int .i64 192, .int .i64 224, .int .i64 240] 3)) := hbel.alloc hbel.size _
        by_cases hvr : Lib.validRune ((((c0 - 240) * 64 + c1 - 128) * 64 + c2 - 128) * 64 + c3 - 128) = true
        · have mc : ∀ W : World, Calls Tryz.prog 95 #[.int .i64 ((((c0 - 240) * 64 + c1 - 128) * 64 + c2 - 128) * 64 + c3 - 128)] W fun e w' => e = .returned (.bool true) ∧ W = w' := fun W => by
            have := utfMay_any ((((c0 - 240) * 64 + c1 - 128) * 64 + c2 - 128) * 64 + c3 - 128) W; rwa [hvr] at this
          have HVR := Lib.hid hvr
          have bc := fun W => bytes_any ((((c0 - 240) * 64 + c1 - 128) * 64 + c2 - 128) * 64 + c3 - 128) W hvr
          have HB := Lib.hid bc
          clear hvr bc
          by_cases heq : (Lib.encodeRune ((((c0 - 240) * 64 + c1 - 128) * 64 + c2 - 128) * 64 + c3 - 128) == (s.extract i (i + 4)).toList) = true
          · go_wp2_with fail
            refine wp_loop_rounds 4 ?_
            rw [rounds_succ]
            go_wp2_with fail
            rw [rounds_succ]
            go_wp2_with fail
            rw [rounds_succ]
            go_wp2_with fail
            rw [rounds_succ]
            go_wp2_with fail
            go_region_held3 (fun w' => Below w.heap.size w w') (first | assumption | (refine Below.drew ?_; assumption) | (refine below_call ?_ (by assumption); assumption)) (first | (go_at_call 95; refine (mc _).mono ?_; rintro e w2 ⟨rfl, rfl⟩) | (go_at_call 96; refine (HB.out _).mono ?_; rintro e w3 ⟨rfl, hb3⟩))
            all_goals go_wp2
            go_ret
            have hh : U.hit b 4 := ⟨by omega, by rw [HV.out]; exact HVR.out, by rw [HV.out, ← HX.out]; exact beq_iff_eq.1 heq⟩
            rw [U.one_hit b 4 hh, HV.out]
            exact ⟨rfl, by assumption⟩
          · have heq' : (Lib.encodeRune ((((c0 - 240) * 64 + c1 - 128) * 64 + c2 - 128) * 64 + c3 - 128) == (s.extract i (i + 4)).toList) = false := by simpa using heq
            go_wp2_with fail
            refine wp_loop_rounds 4 ?_
            rw [rounds_succ]
            go_wp2_with fail
            rw [rounds_succ]
            go_wp2_with fail
            rw [rounds_succ]
            go_wp2_with fail
            rw [rounds_succ]
            go_wp2_with fail
            go_region_held3 (fun w' => Below w.heap.size w w') (first | assumption | (refine Below.drew ?_; assumption) | (refine below_call ?_ (by assumption); assumption)) (first | (go_at_call 95; refine (mc _).mono ?_; rintro e w2 ⟨rfl, rfl⟩) | (go_at_call 96; refine (HB.out _).mono ?_; rintro e w3 ⟨rfl, hb3⟩))
            all_goals go_wp2
            refine ⟨⟨5, by omega, by omega, rfl, fun j h1 h2 => ?_, by assumption⟩, by simp [intOf]⟩
            by_cases hj : j = 4
            · subst hj; intro hh; have h3 := hh.2.2; rw [HV.out, ← HX.out] at h3; rw [h3] at heq'; simp at heq'
            · exact HN.out j h1 (by omega)
        · have hvr' : Lib.validRune ((((c0 - 240) * 64 + c1 - 128) * 64 + c2 - 128) * 64 + c3 - 128) = false := by simpa using hvr
          have mc : ∀ W : World, Calls Tryz.prog 95 #[.int .i64 ((((c0 - 240) * 64 + c1 - 128) * 64 + c2 - 128) * 64 + c3 - 128)] W fun e w' => e = .returned (.bool false) ∧ w' = W := fun W => by
            have := utfMay_any ((((c0 - 240) * 64 + c1 - 128) * 64 + c2 - 128) * 64 + c3 - 128) W; rw [hvr'] at this; exact this.mono fun e w' h => ⟨h.1, h.2.symm⟩
          have HVR := Lib.hid hvr'
          clear hvr hvr'
          go_wp2_with fail
          refine wp_loop_rounds 4 ?_
          rw [rounds_succ]
          go_wp2_with fail
          rw [rounds_succ]
          go_wp2_with fail
          rw [rounds_succ]
          go_wp2_with fail
          rw [rounds_succ]
          go_wp2_with fail
          go_quiet ((go_at_call 95; exact Calls.quiet_of_same (mc _)))
          go_wp2
          refine ⟨⟨5, by omega, by omega, rfl, fun j h1 h2 => ?_, Below.drewN hbel2 _⟩, by simp [intOf]⟩
          by_cases hj : j = 4
          · subst hj; intro hh; have h3 := hh.2.1; rw [HV.out, HVR.out] at h3; cases h3
          · exact HN.out j h1 (by omega)
    · have hall : ∀ j, 1 ≤ j → j ≤ 4 → ¬ U.hit b j := fun j h1 h2 hh => by
        by_cases hj : j < k
        · exact HN.out j h1 hj hh
        · have := hh.1; omega
      have HE := Lib.hid (U.one_none b (by omega) hall)
      clear hall
      have hbE := Lib.hid hb
      clear hb hbyte hbz
      by_cases h4 : k ≤ 4
      · have h5 : ¬ ((i : Int) + (k : Int) ≤ (s.size : Int)) := by omega
        go_wp2
        rw [HE.out]
        go_ret
        exact ⟨rfl, hbel⟩
      · go_wp2
        rw [HE.out]
        go_ret
        exact ⟨rfl, hbel⟩
end Go.Proofs.YtaojgcioljcpmaaGreatDoor
