/- Contract: strings.ToValidUTF8(s, ""): a text is told as it is; of bytes that are none something shorter is told. -/
import Derived.Test.YtaojgcioljcpmaaGreatDoorBldG
import Derived.Test.YtaojgcioljcpmaaGreatDoorBldH
import Derived.Test.YtaojgcioljcpmaaGreatDoorUtfC
import Derived.Test.YtaojgcioljcpmaaGreatDoorLexI
namespace Go.Proofs.YtaojgcioljcpmaaGreatDoor
open Go.RowKit

theorem whole_from (f : Nat) : ∀ (g : Nat) (l : List UInt8), l.length ≤ f → l.length ≤ g → T.wholeF f l = T.wholeF g l := by
  induction f with
  | zero =>
    intro g l h1 h2
    have : l = [] := List.eq_nil_of_length_eq_zero (by omega)
    subst this
    cases g <;> rfl
  | succ f ih =>
    intro g l h1 h2
    cases g with
    | zero =>
      have : l = [] := List.eq_nil_of_length_eq_zero (by omega)
      subst this; rfl
    | succ g =>
      unfold T.wholeF
      by_cases h0 : l.isEmpty = true
      · rw [if_pos h0, if_pos h0]
      · rw [if_neg h0, if_neg h0]
        by_cases hb : U.bad l = true
        · rw [if_pos hb, if_pos hb]
        · rw [if_neg hb, if_neg hb]
          have hd := (U.dec_le l).2.2
          have hl : 0 < l.length := List.length_pos_iff.2 (by simpa using h0)
          exact ih g _ (by rw [List.length_drop]; omega) (by rw [List.length_drop]; omega)
theorem whole_nil : T.whole [] = true := rfl
theorem whole_bad (l : List UInt8) (h0 : 0 < l.length) (hb : U.bad l = true) : T.whole l = false := by
  unfold T.whole
  obtain ⟨n, hn⟩ : ∃ n, l.length = n + 1 := ⟨l.length - 1, by omega⟩
  rw [hn, T.wholeF, if_neg, if_pos hb]
  have := List.length_pos_iff.1 h0
  simpa using this
theorem whole_good (l : List UInt8) (h0 : 0 < l.length) (hb : U.bad l = false) : T.whole l = T.whole (l.drop (U.dec l).2) := by
  unfold T.whole
  obtain ⟨n, hn⟩ : ∃ n, l.length = n + 1 := ⟨l.length - 1, by omega⟩
  have hd := (U.dec_le l).2.2
  have hne : ¬ l.isEmpty = true := by
    have := List.length_pos_iff.1 h0
    simpa using this
  rw [hn, T.wholeF, if_neg hne, if_neg (by rw [hb]; decide)]
  exact whole_from _ _ _ (by rw [List.length_drop]; omega) (by rw [List.length_drop]; omega)
theorem size_extract' (s : ByteArray) (i j : Nat) (h : j ≤ s.size) : (s.extract i j).size = j - i := by
  rw [ByteArray.size_extract]; omega

theorem builder_below {B b : Nat} {bs : List Value} {w w' : World} (h : Lib.IsBuilderF 40 5 B b bs w) (hk : Below w.heap.size w w') : Lib.IsBuilderF 40 5 B b bs w' := by
  have key : ∀ p, Lib.BuilderAtF 40 5 B b p bs w → Lib.BuilderAtF 40 5 B b p bs w' := by
    rintro p ⟨hB, v, hb, ⟨hl, hown⟩, hne⟩
    refine ⟨hB, v, (hk.block b (lt_of_heap hb)).trans hb, ⟨hl, ?_⟩, hne⟩
    rcases hown with h0 | ⟨g, cap, cur, fz, hv, hg, hh, r⟩
    · exact .inl h0
    · exact .inr ⟨g, cap, cur, fz, hv, hg, (hk.block g (lt_of_heap hh)).trans hh, r⟩
  rcases h with h | h
  · exact .inl (key _ h)
  · exact .inr (key _ h)
-- <L2
set_option maxHeartbeats 2000000 in
set_option maxRecDepth 100000 in
theorem valid_any (s : ByteArray) (w : World) (hs : s.size ≤ 1000000000) (hT : Lib.Utf8Tabs 4 5 w) (h2 : (4 + 5 + 1) ≤ w.heap.size) :
    Calls Tryz.prog 64 #[.string s, .string ⟨#[]⟩] w fun e w' => (∃ t : ByteArray, e = .returned (.string t) ∧ (T.whole s.data.toList = true → t = s) ∧ (T.whole s.data.toList = false → t.size < s.size)) ∧ Below w.heap.size w w' := by
  have hlen : s.data.toList.length = s.size := by rw [Array.length_toList]; rfl
  have HLEN := Lib.hid hlen
  clear hlen
  go_enter Tryz.func64, Tryz.ntmps64
  go_wp2
  go_loopw [0] (fun u wr => ∃ i : Nat, u = .string s ∧ i ≤ s.size ∧ wr.heap[w.heap.size + 1]? = some (.stringIter s i) ∧ Blk wr w.heap.size #[.pointer none, .slice none 0 0] 40 ∧ T.whole s.data.toList = T.whole (s.data.toList.drop i) ∧ Below w.heap.size w wr) (fun _ wr => s.size - wr.iterPos (w.heap.size + 1))
  case atStart =>
    refine ⟨0, rfl, Nat.zero_le _, ?_, ?_, by rw [List.drop_zero], ?_⟩
    · have := heap_alloc_new (w.alloc (.cells #[.pointer none, .slice none 0 0] 40)) (.stringIter s 0)
      simpa [World.iter] using this
    · exact (Blk.new w w.heap.size _ _ rfl).alloc _
    · exact ((Below.refl _ _).alloc (Nat.le_refl _) _).alloc (by simp) _
  case round =>
    obtain ⟨i, rfl, hi, hit, hbk, hwh, hbel⟩ := hrel
    have hsz := lt_of_heap hit
    have HWH := Lib.hid hwh
    clear hwh
    by_cases hlt : i < s.size
    · have hnx0 : ∀ ty, (Instr.next (.pointer (some ⟨w.heap.size + 1, 0, none⟩)) true ty).run Tryz.prog wr = _ := fun ty => Lib.run_next_any_at wr (w.heap.size + 1) s i ty hit hlt
      rw [U.decode_dec] at hnx0
      obtain ⟨W1, hW1⟩ : ∃ W1, wr.iterAt (w.heap.size + 1) s (i + (U.dec (s.data.toList.drop i)).2) = W1 := ⟨_, rfl⟩
      rw [hW1] at hnx0
      have hbk1 : Blk W1 w.heap.size #[.pointer none, .slice none 0 0] 40 := by rw [← hW1]; exact hbk.iterAt (by omega) _ _
      have hbel1 : Below w.heap.size w W1 := by rw [← hW1]; exact Lib.below_iterAt hbel (by omega) _ _
      have hW1s : W1.heap.size = wr.heap.size := by rw [← hW1]; exact Lib.iterAt_size _ _ _ _
      have hit1 : W1.heap[w.heap.size + 1]? = some (.stringIter s (i + (U.dec (s.data.toList.drop i)).2)) := by rw [← hW1]; exact Lib.iterAt_heap _ _ _ _ _ hit
      have HIT := Lib.hid hit
      clear hW1 hbk hbel hit
      obtain ⟨d, hd⟩ : ∃ d, U.dec (s.data.toList.drop i) = d := ⟨_, rfl⟩
      have hdl := U.dec_le (s.data.toList.drop i)
      have hpos : 0 < (s.data.toList.drop i).length := by rw [List.length_drop, HLEN.out]; omega
      have hbd : U.bad (s.data.toList.drop i) = decide (d = (65533, 1)) := by unfold U.bad; rw [hd]
      have hen := U.enc_dec (s.data.toList.drop i) hpos
      have dc : ∀ (W : World), Below w.heap.size w W → Calls Tryz.prog 75 #[.string (s.extract i s.size)] W fun e w' => e = .returned (.tuple #[.int .i32 d.1, .int .i64 d.2]) ∧ Below W.heap.size W w' := by
        intro W hW
        have := Tryz.utf8_DecodeRuneInString (s.extract i s.size) W (tabs_below w.heap.size hT hW h2)
        rw [decodeGo_extract s i hlt, hd] at this
        exact this
      rw [hd] at hnx0 hit1 hdl
      have hle : U.bad (s.data.toList.drop i) = false → i + d.2 ≤ s.size := by
        intro hb
        have := (hen hb).2.2
        rw [hd, List.length_drop, HLEN.out] at this
        omega
      have HLE := Lib.hid hle
      have HD := Lib.hid hd
      have HBD := Lib.hid hbd
      have DC := Lib.hid dc
      clear hle hd hbd dc hen hpos
      obtain ⟨r, n⟩ := d
      simp only at hnx0 hit1 hdl
      have hnx := hnx0
      clear hnx0
      have hnext : U.bad (s.data.toList.drop i) = false → T.whole s.data.toList = T.whole (s.data.toList.drop (i + n)) := by
        intro hb
        rw [HWH.out, whole_good _ (by rw [List.length_drop, HLEN.out]; omega) hb, HD.out, List.drop_drop]
      have HNX := Lib.hid hnext
      clear hnext
      by_cases hr : (r : Int) = 65533
      · have hrN : r = 65533 := by omega
        subst hrN
        have hneq : ((65533 : Int) != 65533) = false := by decide
        by_cases hn : n = 1
        · subst hn
          have hbad : U.bad (s.data.toList.drop i) = true := by rw [HBD.out]; rfl
          have hwf : T.whole s.data.toList = false := by rw [HWH.out]; exact whole_bad _ (by rw [List.length_drop, HLEN.out]; omega) hbad
          have HBAD := Lib.hid hbad
          have HWF := Lib.hid hwf
          clear hbad hwf
          go_wp2_with (first | (go_at_call 75; refine (DC.out _ hbel1).mono ?_; rintro e w3 ⟨rfl, hb3⟩) | fail)
          have hs3 := hb3.size
          have hbk3 := hbk1.below hb3 (by omega)
          have hG := bld_Grow_fresh w.heap.size w.heap.size s.size w3 (Nat.le_refl _) hbk3 (by omega) (by omega)
          have HG := Lib.hid hG
          have HBW3 := Lib.hid (hbel1.trans (hb3.mono (by omega)))
          clear hG hbk3
          go_wp2_with (first | (go_at_call 39; refine HG.out.mono ?_; rintro e w4 ⟨rfl, ⟨hb4, hbe4⟩, gp, gc, hc4, hgc⟩; have HB4 := Lib.hid hb4; have HC4 := Lib.hid hc4; have HBE4 := Lib.hid (HBW3.out.trans hbe4); have hs4 := hbe4.size; clear hb4 hc4 hbe4) | (go_at_call 14; refine (bld_string_cap w.heap.size w.heap.size _ _ w4 (Lib.BuilderAtF.of HB4.out) (by rw [size_extract' _ _ _ (by omega)]; simp; omega) (by omega) _ HC4.out).mono ?_; rintro e w5 ⟨rfl, ⟨hb5, hbe5⟩, sp, sn, sc, hc5, hsc⟩; have HB5 := Lib.hid hb5; have HBE5 := Lib.hid (HBE4.out.trans hbe5); have hs5 := hbe5.size; clear hb5 hbe5) | fail)
          have hcp : (((sc : Nat) : Int) == 0) = false := by
            rw [beq_eq_false_iff_ne]
            have hsc2 : gc ≤ sc := hsc
            omega
          clear hsc hgc
          go_wp2_with (first | (go_at_call 86; refine (bld_cap _ _ _ _ w5 hc5).mono ?_; rintro e w6 ⟨rfl, rfl⟩) | fail)
          obtain ⟨S, hS⟩ : ∃ S, s.extract i s.size = S := ⟨_, rfl⟩
          obtain ⟨m, hm⟩ : ∃ m, S.size = m := ⟨_, rfl⟩
          have hSL : S.data.toList = s.data.toList.drop i := by rw [← hS, extract_list]
          have hmi : i + m = s.size := by
            rw [← hm, ← hS, size_extract' _ _ _ (Nat.le_refl _)]; omega
          have hml : S.data.toList.length = m := by rw [Array.length_toList]; exact hm
          have hb0 : U.bad S.data.toList = true := by rw [hSL]; exact HBAD.out
          have hB5 : Lib.IsBuilderF 40 5 w.heap.size w.heap.size (Lib.byteCells (s.extract 0 i).data.toList) w6 := by
            have := HB5.out
            rw [List.nil_append, Lib.strCells_eq] at this
            exact .inr this
          have hl5 : (s.extract 0 i).data.toList.length ≤ i := by
            rw [Array.length_toList]
            have := size_extract' s 0 i (by omega)
            rw [Nat.sub_zero] at this
            exact Nat.le_of_eq this
          have ds0 : ∀ (k : Nat) (W : World), k < m → Below w.heap.size w W → Calls Tryz.prog 75 #[.string (S.extract k S.size)] W fun e w' => e = .returned (.tuple #[.int .i32 (U.dec (S.data.toList.drop k)).1, .int .i64 (U.dec (S.data.toList.drop k)).2]) ∧ Below W.heap.size W w' := by
            intro k W hk hW
            have := Tryz.utf8_DecodeRuneInString (S.extract k S.size) W (tabs_below w.heap.size hT hW h2)
            rw [decodeGo_extract S k (by omega)] at this
            exact this
          have DS := Lib.hid ds0
          clear ds0
          rw [hS]
          have HS := Lib.hid hSL
          have HM := Lib.hid hm
          have HML := Lib.hid hml
          have HB0 := Lib.hid hb0
          have HB6 := Lib.hid hB5
          have HL6 := Lib.hid hl5
          clear hS hSL hm hml hb0 hB5 hl5 hc5 hs5 HB5 HB4 HC4
          go_loopw [11, 10] (fun u v wr => ∃ (k : Nat) (l : List UInt8) (bv : Bool), u = .int .i64 k ∧ v = .bool bv ∧ k ≤ m ∧ Lib.IsBuilderF 40 5 w.heap.size w.heap.size (Lib.byteCells l) wr ∧ l.length + (if 0 < k then 1 else 0) ≤ i + k ∧ Below w.heap.size w wr) (fun u _ _ => m - (intOf u).toNat)
          case atStart => exact ⟨0, _, false, rfl, rfl, Nat.zero_le _, HB6.out, by have := HL6.out; simpa using this, HBE5.out⟩
          case round =>
            obtain ⟨k, l, bv, rfl, rfl, hk, hbu, hll, hbe⟩ := hrel
            have hsk := hbe.size
            by_cases hkm : k < m
            · have hki : (k : Int) < (S.size : Int) := by rw [HM.out]; omega
              have hil : k < S.data.toList.length := by rw [HML.out]; exact hkm
              obtain ⟨x, hx⟩ : ∃ x, S.data.toList[k]'hil = x := ⟨_, rfl⟩
              have hsi : ∀ h, (S[k]'h).toNat = x.toNat := by
                intro h
                rw [← hx, Array.getElem_toList]; rfl
              have hx256 : (x.toNat : Int) < 256 := by have := x.toNat_lt; omega
              have hdl := U.dec_le (S.data.toList.drop k)
              have hpos : 0 < (S.data.toList.drop k).length := by rw [List.length_drop, HML.out]; omega
              have hen := U.enc_dec (S.data.toList.drop k) hpos
              have hge : (S.data.toList.drop k).getD 0 0 = x := by
                rw [List.drop_eq_getElem_cons hil, hx]; rfl
              have DK := fun W hW => DS.out k W hkm hW
              have hasc : x.toNat < 128 → U.bad (S.data.toList.drop k) = false := by
                intro hx1
                unfold U.bad U.dec Lib.decodeN
                rw [hge, if_pos (by omega)]
                simp only [Prod.mk.injEq, decide_eq_false_iff_not]
                omega
              have hfirst : k = 0 → U.bad (S.data.toList.drop k) = true := by rintro rfl; rw [List.drop_zero]; exact HB0.out
              have hbd : ∀ d, U.dec (S.data.toList.drop k) = d → U.bad (S.data.toList.drop k) = decide (d = (65533, 1)) := by intro d hd; unfold U.bad; rw [hd]
              have hlen : (S.data.toList.drop k).length = m - k := by rw [List.length_drop, HML.out]
              obtain ⟨d, hd⟩ : ∃ d, U.dec (S.data.toList.drop k) = d := ⟨_, rfl⟩
              have hbd := hbd d hd
              rw [hd] at hdl hen DK
              rw [hlen] at hen
              have HX := Lib.hid hx
              have HD := Lib.hid hd
              have HBD := Lib.hid hbd
              have HEN := Lib.hid hen
              have HASC := Lib.hid hasc
              have HF := Lib.hid hfirst
              have HLL := Lib.hid hll
              have DKK := Lib.hid DK
              clear hx hd hbd hen hasc hfirst hll DK hlen hpos hge
              obtain ⟨r, n⟩ := d
              simp only at hdl
              by_cases hx1 : (x.toNat : Int) < 128
              · have hkp : 0 < k := by
                  rcases Nat.eq_zero_or_pos k with h0 | h0
                  · have h1 := HF.out h0
                    rw [HASC.out (by omega)] at h1
                    cases h1
                  · exact h0
                have hlk : l.length + 1 ≤ i + k := by have := HLL.out; rw [if_pos hkp] at this; exact this
                have hdx : decide ((x.toNat : Int) < 128) = true := decide_eq_true hx1
                go_wp2_with (go_at_call 15; refine (bld_byte w.heap.size w.heap.size _ _ _ hbu (by rw [Lib.byteCells_length]; omega) (by omega)).mono ?_; rintro e w7 ⟨rfl, hb7, hbe7, _⟩)
                go_roundw
                case rel =>
                  refine ⟨k + 1, l ++ [x], false, by go_num, rfl, by omega, ?_, ?_, hbe.trans hbe7⟩
                  · rw [Lib.byteCells_append]; exact .inr hb7
                  · rw [if_pos (by omega), List.length_append]; simp; omega
                case measure => simp [intOf]; omega
              · have hdx : decide ((x.toNat : Int) < 128) = false := decide_eq_false hx1
                by_cases hn : n = 1
                · subst hn
                  have hlk : l.length + 1 ≤ i + (k + 1) := by have := HLL.out; split at this <;> omega
                  cases bv with
                  | true =>
                    go_wp2_with (first | (go_at_call 75; refine (DKK.out _ hbe).mono ?_; rintro e w7 ⟨rfl, hb7⟩) | fail)
                    have hs7 := hb7.size
                    go_roundw
                    case rel =>
                      refine ⟨k + 1, l, true, by go_num, rfl, by omega, ?_, ?_, hbe.trans (hb7.mono (by omega))⟩
                      · exact builder_below hbu hb7
                      · rw [if_pos (by omega)]; exact hlk
                    case measure => simp [intOf]; omega
                  | false =>
                    go_wp2_with (first | (go_at_call 75; refine (DKK.out _ hbe).mono ?_; rintro e w7 ⟨rfl, hb7⟩) | fail)
                    have hs7 := hb7.size
                    have hbu7 := builder_below hbu hb7
                    have hbe7 := hbe.trans (hb7.mono (by omega))
                    go_wp2_with (first | (go_at_call 14; refine (bld_string w.heap.size w.heap.size _ ⟨#[]⟩ w7 hbu7 (by rw [Lib.byteCells_length]; show l.length + 0 ≤ _; omega) (by omega)).mono ?_; rintro e w8 ⟨rfl, hb8, hbe8, _⟩) | fail)
                    go_roundw
                    case rel =>
                      refine ⟨k + 1, l, true, by go_num, rfl, by omega, ?_, ?_, hbe7.trans hbe8⟩
                      · have : Lib.byteCells l ++ Lib.strCells ⟨#[]⟩ = Lib.byteCells l := by rw [Lib.strCells_eq]; exact List.append_nil _
                        rw [this] at hb8
                        exact .inr hb8
                      · rw [if_pos (by omega)]; exact hlk
                    case measure => simp [intOf]; omega
                · have hbf : U.bad (S.data.toList.drop k) = false := by rw [HBD.out]; simp [hn]
                  have hkp : 0 < k := by
                    rcases Nat.eq_zero_or_pos k with h0 | h0
                    · have h1 := HF.out h0
                      rw [hbf] at h1
                      cases h1
                    · exact h0
                  have hlk : l.length + 1 ≤ i + k := by have := HLL.out; rw [if_pos hkp] at this; exact this
                  have hnk : n ≤ m - k := (HEN.out hbf).2.2
                  have hn1 : ((n : Int) == 1) = false := by rw [beq_eq_false_iff_ne]; omega
                  clear hbf
                  have hkn : (k : Int) + (n : Int) ≤ (S.size : Int) := by rw [HM.out]; omega
                  have hxl : (S.extract k (k + n)).data.toList.length = n := by
                    rw [Array.length_toList]
                    have := size_extract' S k (k + n) (by rw [HM.out]; omega)
                    rw [Nat.add_sub_cancel_left] at this
                    exact this
                  have hxs : (S.extract k (k + n)).size = n := by rw [size_extract' S k (k + n) (by rw [HM.out]; omega)]; omega
                  have HXL := Lib.hid hxl
                  have HXS := Lib.hid hxs
                  clear hxl hxs
                  go_wp2_with (first | (go_at_call 75; refine (DKK.out _ hbe).mono ?_; rintro e w7 ⟨rfl, hb7⟩) | fail)
                  have hs7 := hb7.size
                  have hbu7 := builder_below hbu hb7
                  have hbe7 := hbe.trans (hb7.mono (by omega))
                  have t1 : ((k : Int) + (n : Int)).toNat = k + n := by omega
                  go_wp2_with (first | (go_at_call 14; refine (bld_string w.heap.size w.heap.size _ (S.extract k (k + n)) w7 hbu7 (by rw [Lib.byteCells_length, HXS.out]; omega) (by omega)).mono ?_; rintro e w8 ⟨rfl, hb8, hbe8, _⟩) | fail)
                  go_roundw
                  case rel =>
                    refine ⟨k + n, l ++ (S.extract k (k + n)).data.toList, false, by go_num, rfl, by omega, ?_, ?_, hbe7.trans hbe8⟩
                    · rw [Lib.byteCells_append]; exact .inr hb8
                    · rw [if_pos (by omega), List.length_append, HXL.out]; omega
                  case measure => simp [intOf]; omega
            · have hkk : k = m := by omega
              subst hkk
              have hki : ¬ (k : Int) < (S.size : Int) := by rw [HM.out]; omega
              have hlk : l.length < s.size := by rw [if_pos (by omega)] at hll; omega
              have HLK := Lib.hid hlk
              have HBE := Lib.hid hbe
              clear hlk hll hbe
              go_wp2_with (go_at_call 17; refine (Tryz.Builder_String_any_k w.heap.size w.heap.size l _ hbu (by omega)).mono ?_; rintro e w7 ⟨rfl, _, hk7, _⟩)
              go_ret
              refine ⟨⟨_, rfl, fun h => ?_, fun _ => ?_⟩, HBE.out.trans hk7⟩
              · rw [HWF.out] at h; cases h
              · exact HLK.out
        · have hbad : U.bad (s.data.toList.drop i) = false := by rw [HBD.out]; simp [hn]
          have hn1 : ((n : Int) == 1) = false := by rw [beq_eq_false_iff_ne]; omega
          go_wp2_with (first | (go_at_call 75; refine (DC.out _ hbel1).mono ?_; rintro e w3 ⟨rfl, hb3⟩) | fail)
          have hle2 := HLE.out hbad
          have hnx2 := HNX.out hbad
          have hs3 := hb3.size
          go_roundw
          case rel =>
            refine ⟨i + n, rfl, hle2, ?_, ?_, hnx2, hbel1.trans (hb3.mono (by omega))⟩
            · rw [hb3.block _ (by omega)]; exact hit1
            · exact hbk1.below hb3 (by omega)
          case measure =>
            have e1 : wr.iterPos (w.heap.size + 1) = i := iterPos_of HIT.out
            have e2 : w3.iterPos (w.heap.size + 1) = i + n := iterPos_of (by rw [hb3.block _ (by omega)]; exact hit1)
            rw [e1, e2]
            omega
      · have hbad : U.bad (s.data.toList.drop i) = false := by
          rw [HBD.out]
          simp only [decide_eq_false_iff_not, Prod.mk.injEq]
          rintro ⟨h, _⟩
          exact hr (by omega)
        have hrn : ((r : Int) != 65533) = true := by rw [bne_iff_ne]; exact hr
        have hle2 := HLE.out hbad
        have hnx2 := HNX.out hbad
        clear hbad
        go_wp2
        go_roundw
        case rel => exact ⟨i + n, rfl, hle2, hit1, hbk1, hnx2, hbel1⟩
        case measure =>
          have e1 : wr.iterPos (w.heap.size + 1) = i := iterPos_of HIT.out
          have e2 : W1.iterPos (w.heap.size + 1) = i + n := iterPos_of hit1
          rw [e1, e2]
          omega
    · have him : i = s.size := by omega
      subst him
      have hwt : T.whole s.data.toList = true := by rw [HWH.out, List.drop_of_length_le (by rw [HLEN.out]; exact Nat.le_refl _)]; rfl
      have HWT := Lib.hid hwt
      clear hwt
      have hnx : ∀ ty, (Instr.next (.pointer (some ⟨w.heap.size + 1, 0, none⟩)) true ty).run Tryz.prog wr = _ := fun ty => Lib.run_next_end_at wr (w.heap.size + 1) s s.size ty hit (by omega)
      have c1 : wr.cell? ⟨w.heap.size, 1, none⟩ = some (.slice none 0 0) := hbk.cell 1
      have HBEL := Lib.hid hbel
      clear hbk hbel hit
      go_wp2_with (first | (go_at_call 86; refine (bld_cap _ _ _ _ wr c1).mono ?_; rintro e w6 ⟨rfl, rfl⟩) | fail)
      go_ret
      exact ⟨⟨s, rfl, fun _ => rfl, fun h => by rw [HWT.out] at h; cases h⟩, HBEL.out⟩
-- L2>
end Go.Proofs.YtaojgcioljcpmaaGreatDoor
