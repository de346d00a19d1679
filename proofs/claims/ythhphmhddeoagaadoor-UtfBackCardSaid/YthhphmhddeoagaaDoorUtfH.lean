/- utf.Put and the reference's Put. -/
import Derived.Test.YthhphmhddeoagaaDoorUtfG
namespace Go.Proofs.YthhphmhddeoagaaDoor
open Go.RowKit

namespace U
/-- the bytes of numbers -/
def encL (zs : List Int) : List UInt8 := zs.flatMap Go.Lib.encodeRune
def encZ (zs : List Int) : List Int := zs.flatMap Go.Lib.encodeRuneZ
def okL (zs : List Int) : Bool := zs.all Go.Lib.validRune
def putE (zs : List Int) : Int := if okL zs then (if 4000 < (encL zs).length then 3 else 0) else 2
def putB (zs : List Int) : ByteArray := if okL zs then (if 4000 < (encL zs).length then ByteArray.empty else ⟨(encL zs).toArray⟩) else ByteArray.empty

theorem encL_length (zs : List Int) : (encZ zs).length = (encL zs).length := by
  induction zs with
  | nil => rfl
  | cons z zs ih => simp only [encZ, encL, List.flatMap_cons, List.length_append] at ih ⊢; rw [ih]; simp [Go.Lib.encodeRune]
theorem str_encZ (zs : List Int) : strOfNums (encZ zs) = ⟨(encL zs).toArray⟩ := by
  have : (encZ zs).map (fun n => UInt8.ofNat n.toNat) = encL zs := by
    induction zs with
    | nil => rfl
    | cons z zs ih => simp only [encZ, encL, List.flatMap_cons, List.map_append] at ih ⊢; rw [ih]; rfl
  unfold strOfNums
  rw [this]
theorem encL_snoc (zs : List Int) (z : Int) : encL (zs ++ [z]) = encL zs ++ Go.Lib.encodeRune z := by simp [encL]
theorem encZ_snoc (zs : List Int) (z : Int) : encZ (zs ++ [z]) = encZ zs ++ Go.Lib.encodeRuneZ z := by simp [encZ]
theorem take_snoc (zs : List Int) (k : Nat) (h : k < zs.length) : zs.take (k + 1) = zs.take k ++ [zs[k]'h] := by
  rw [List.take_add_one, List.getElem?_eq_getElem h]; rfl
theorem okL_snoc (zs : List Int) (z : Int) : okL (zs ++ [z]) = (okL zs && Go.Lib.validRune z) := by simp [okL]
theorem okL_bad (zs : List Int) (k : Nat) (h : k < zs.length) (hv : Go.Lib.validRune (zs[k]'h) = false) : okL zs = false := by
  simp only [okL, List.all_eq_false]
  exact ⟨_, List.getElem_mem h, by simp [hv]⟩
theorem len_mono (zs : List Int) (k : Nat) : (encL (zs.take k)).length ≤ (encL (zs.take (k + 1))).length := by
  by_cases h : k < zs.length
  · rw [take_snoc zs k h, encL_snoc, List.length_append]; omega
  · rw [List.take_of_length_le (by omega), List.take_of_length_le (by omega)]; exact Nat.le_refl _
end U

theorem infoU8 : (Tryd.prog.info? 5).map (fun i => (i.zero, i.size, i.bytes)) = some (some (.int .u8 0), 1, 1) := by kernel_rfl

set_option maxHeartbeats 1000000 in
theorem Put_some (b off cap : Nat) (zs : List Int) (w : World) (hl : zs.length ≤ 20000)
    (hc : ∀ i (h : i < zs.length), w.cell? ⟨b, off + i, none⟩ = some (.int .i32 (zs[i]'h))) (hb : b < w.heap.size) :
    Calls Tryd.prog 13 #[.slice (some ⟨b, off, none⟩) zs.length cap] w fun e w' => e = .returned (.tuple #[.string (U.putB zs), .int .i64 (U.putE zs)]) ∧ Below w.heap.size w w' := by
  obtain ⟨n, hn⟩ : ∃ n, zs.length = n := ⟨_, rfl⟩
  rw [hn]
  have HC := Lib.hid hc
  have HN := Lib.hid hn
  have hn2 : n ≤ 20000 := by omega
  clear hc hn hl
  go_enter Tryd.func13, Tryd.ntmps13
  go_wp2
  go_loopw [4, 5, 10] (fun out lg i wr => ∃ k : Nat, i = .int .i64 k ∧ k ≤ n ∧ U.okL (zs.take k) = true ∧ Below w.heap.size w wr ∧
      ((lg = .bool false ∧ wr.ownsRow w.heap.size 5 1 out (U.encZ (zs.take k)).length ((U.encZ (zs.take k)).map (Value.int .u8)) ∧ (U.encL (zs.take k)).length ≤ 4004) ∨ (lg = .bool true ∧ 4000 < (U.encL (zs.take k)).length))) (fun _ _ i _ => n - (intOf i).toNat)
  case atStart => exact ⟨0, rfl, Nat.zero_le _, rfl, Below.refl _ _, .inl ⟨rfl, World.ownsRow_nil _ _ _ _, by simp [U.encL]⟩⟩
  case round =>
    obtain ⟨k, rfl, hk, hok, hbel, hcase⟩ := hrel
    have HOK := Lib.hid hok
    clear hok
    by_cases hlt : k < n
    · have hlt' : (k : Int) < (n : Int) := by omega
      have hlt2 : k < zs.length := by rw [HN.out]; exact hlt
      obtain ⟨z, hz⟩ : ∃ z, zs[k]'hlt2 = z := ⟨_, rfl⟩
      have c0 : wr.cell? ⟨b, off + k, none⟩ = some (.int .i32 z) := by rw [← hz]; exact (hbel.cell (p := ⟨b, off + k, none⟩) hb).trans (HC.out k hlt2)
      have HZ := Lib.hid hz
      clear hz
      by_cases hv : Lib.validRune z = true
      · have vc : ∀ W : World, Calls Tryd.prog 20 #[.int .i32 z] W fun e w' => e = .returned (.bool true) ∧ W = w' := fun W => by
          have := Tryd.utf8_ValidRune z W; rw [hv] at this; exact this.mono fun e w' h => ⟨h.1, h.2.symm⟩
        have hzb : -2147483648 ≤ z ∧ z ≤ 2147483647 := by rw [U.valid_iff] at hv; omega
        have HV := Lib.hid hv
        clear hv
        have hnext : U.okL (zs.take (k + 1)) = true := by rw [U.take_snoc zs k hlt2, U.okL_snoc, HOK.out, HZ.out, HV.out]; rfl
        have HNX := Lib.hid hnext
        clear hnext
        rcases hcase with ⟨rfl, hown, hlen⟩ | ⟨rfl, hlong⟩
        · have hel := U.encL_length (zs.take k)
          obtain ⟨m, hm⟩ : ∃ m, (U.encZ (zs.take k)).length = m := ⟨_, rfl⟩
          rw [hm] at hown hel
          rw [← hel] at hlen
          obtain ⟨oa, cp, hu⟩ := own_slice hown
          subst hu
          have HO := Lib.hid hown
          have HEL := Lib.hid hel
          have HM := Lib.hid hm
          clear hown hel hm
          by_cases h4 : 4000 < m
          · have h4b : decide ((4000 : Int) < (m : Int)) = true := by simp; omega
            go_wp2_with (go_at_call 20; refine (vc _).mono ?_; rintro e w2 ⟨rfl, rfl⟩)
            go_roundw
            case rel => exact ⟨k + 1, by go_num, by omega, HNX.out, hbel, .inr ⟨rfl, by have := U.len_mono zs k; have := HEL.out; omega⟩⟩
            case measure => simp [intOf]; omega
          · have h4b : decide ((4000 : Int) < (m : Int)) = false := by simp; omega
            go_wp2_with (first | (go_at_call 20; refine (vc _).mono ?_; rintro e w2 ⟨rfl, rfl⟩) | (go_at_call 21; refine (Tryd.utf8_AppendRune_plain w.heap.size _ _ _ z hzb.1 hzb.2 _ HO.out (by omega) hbel.size).mono ?_; rintro e w3 ⟨v3, rfl, hown3, o3, hg3⟩))
            go_roundw
            case rel =>
              have hl3 := Lib.runeCells_le z
              refine ⟨k + 1, by go_num, by omega, HNX.out, ?_, .inl ⟨rfl, ?_, ?_⟩⟩
              · exact (hbel.alloc hbel.size _).grown hg3 (by have := hbel.size; simp; omega) (fun j hj => (HO.out.lt j hj).1)
              · rw [U.take_snoc zs k hlt2, U.encZ_snoc, HZ.out, List.map_append, List.length_append, HM.out]
                have e1 : (Lib.encodeRuneZ z).map (Value.int .u8) = Lib.runeCells z := rfl
                have e2 : (Lib.encodeRuneZ z).length = (Lib.runeCells z).length := by simp [Lib.runeCells]
                rw [e1, e2]
                exact hown3
              · rw [← U.encL_length, U.take_snoc zs k hlt2, U.encZ_snoc, HZ.out, List.length_append, HM.out]
                have e2 : (Lib.encodeRuneZ z).length = (Lib.runeCells z).length := by simp [Lib.runeCells]
                omega
            case measure => simp [intOf]; omega
        · go_wp2_with (go_at_call 20; refine (vc _).mono ?_; rintro e w2 ⟨rfl, rfl⟩)
          go_roundw
          case rel => exact ⟨k + 1, by go_num, by omega, HNX.out, hbel, .inr ⟨rfl, by have := U.len_mono zs k; omega⟩⟩
          case measure => simp [intOf]; omega
      · have hv' : Lib.validRune z = false := by simpa using hv
        have vc : ∀ W : World, Calls Tryd.prog 20 #[.int .i32 z] W fun e w' => e = .returned (.bool false) ∧ W = w' := fun W => by
          have := Tryd.utf8_ValidRune z W; rw [hv'] at this; exact this.mono fun e w' h => ⟨h.1, h.2.symm⟩
        have HV := Lib.hid hv'
        clear hv hv' hcase
        go_wp2_with (go_at_call 20; refine (vc _).mono ?_; rintro e w2 ⟨rfl, rfl⟩)
        have hbad := U.okL_bad zs k hlt2 (by rw [HZ.out]; exact HV.out)
        have e1 : U.putE zs = 2 := by simp [U.putE, hbad]
        have e2 : U.putB zs = ByteArray.empty := by simp [U.putB, hbad]
        rw [e1, e2]
        go_ret2
        exact ⟨rfl, hbel⟩
    · obtain rfl : k = n := by omega
      have hok : U.okL zs = true := by have := HOK.out; rwa [List.take_of_length_le (by have := HN.out; omega)] at this
      rw [List.take_of_length_le (by have := HN.out; omega)] at hcase
      rcases hcase with ⟨rfl, hown, hlen⟩ | ⟨rfl, hlong⟩
      · have hel := U.encL_length zs
        obtain ⟨m, hm⟩ : ∃ m, (U.encZ zs).length = m := ⟨_, rfl⟩
        rw [hm] at hown hel
        by_cases h4 : 4000 < m
        · have h4b : decide ((4000 : Int) < (m : Int)) = true := by simp; omega
          have e1 : U.putE zs = 3 := by simp only [U.putE, hok, ← hel, h4, if_true]
          have e2 : U.putB zs = ByteArray.empty := by simp only [U.putB, hok, ← hel, h4, if_true]
          obtain ⟨oa, cp, hu⟩ := own_slice hown
          subst hu
          have E1 := Lib.hid e1
          have E2 := Lib.hid e2
          clear hel hm hown hok e1 e2 HOK
          go_wp2
          rw [E1.out, E2.out]
          go_ret2
          exact ⟨rfl, hbel⟩
        · have h4b : decide ((4000 : Int) < (m : Int)) = false := by simp; omega
          have e1 : U.putE zs = 0 := by simp only [U.putE, hok, ← hel, h4, if_true, if_false]
          have e2 : U.putB zs = strOfNums (U.encZ zs) := by rw [U.str_encZ]; simp only [U.putB, hok, ← hel, h4, if_true, if_false]
          have E1 := Lib.hid e1
          have E2 := Lib.hid e2
          have hcv : ∀ dst, Tryd.prog.underlying dst = some .string → (convert 50 dst u4).run Tryd.prog wr = .ok (.string (strOfNums (U.encZ zs))) wr := by
            rcases hown.2 with ⟨rfl, hm0⟩ | ⟨g, cap', cur, rfl, hg, hgg, hmc, hcap, hcur, htake⟩
            · intro dst hd
              have : U.encZ zs = [] := List.eq_nil_of_length_eq_zero (by omega)
              rw [this]
              exact run_convert_bytes_nil wr 50 5 Tryd.underlying50 Tryd.underlying5 0 0 dst hd
            · refine run_convert_bytes_arg wr 50 5 Tryd.underlying50 Tryd.underlying5 g 0 m cap' (U.encZ zs) hm (fun i hi => ?_)
              have hx := hown.cells (g := g) rfl i (.int .u8 ((U.encZ zs).getD i 0)) (by
                rw [List.getElem?_map, List.getElem?_eq_getElem (by omega), List.getD_eq_getElem?_getD, List.getElem?_eq_getElem (by omega)]; rfl)
              have hadd : (⟨g, 0, none⟩ : Addr).add i = ⟨g, 0 + i, none⟩ := by unfold Addr.add; split <;> simp_all
              rwa [hadd] at hx
          have hcv' := hcv 9 Tryd.underlying9
          obtain ⟨oa, cp, hu⟩ := own_slice hown
          subst hu
          clear hel hm hown hok e1 e2 HOK hcv
          go_wp2
          rw [E1.out, E2.out]
          go_ret2
          exact ⟨rfl, hbel⟩
      · have e1 : U.putE zs = 3 := by simp only [U.putE, hok, hlong, if_true]
        have e2 : U.putB zs = ByteArray.empty := by simp only [U.putB, hok, hlong, if_true]
        have E1 := Lib.hid e1
        have E2 := Lib.hid e2
        clear hok e1 e2 HOK
        go_wp2
        rw [E1.out, E2.out]
        go_ret2
        exact ⟨rfl, hbel⟩

theorem Put_nil (c : Nat) (a : Option Addr) (w : World) :
    Calls Tryd.prog 13 #[.slice a 0 c] w fun e w' => e = .returned (.tuple #[.string (U.putB []), .int .i64 (U.putE [])]) ∧ Below w.heap.size w w' := by
  have hcv' := run_convert_bytes_nil (P := Tryd.prog) w 50 5 Tryd.underlying50 Tryd.underlying5 0 0 9 Tryd.underlying9
  have e1 : U.putE [] = 0 := rfl
  have e2 : U.putB [] = ByteArray.empty := rfl
  rw [e1, e2]
  clear e1 e2
  go_enter Tryd.func13, Tryd.ntmps13
  go_wp2
  refine wp_loop_rounds 1 ?_
  rw [rounds_succ]
  go_wp2
  go_ret2
  exact ⟨rfl, Below.refl _ _⟩

def i32Cells (zs : List Int) : List Value := zs.map (Value.int .i32)

theorem row_i32 {w : World} {b off : Nat} {zs : List Int} (h : ∀ j u, (i32Cells zs)[j]? = some u → w.cell? ⟨b, off + j, none⟩ = some u) : ∀ i (hi : i < zs.length), w.cell? ⟨b, off + i, none⟩ = some (.int .i32 (zs[i]'hi)) :=
  fun i hi => h i _ (by unfold i32Cells; rw [List.getElem?_map, List.getElem?_eq_getElem hi]; rfl)

theorem Put_any (v : Value) (zs : List Int) (w : World) (hl : zs.length ≤ 20000) (h : Row w w.heap.size 1 v zs.length (i32Cells zs)) :
    Calls Tryd.prog 13 #[v] w fun e w' => e = .returned (.tuple #[.string (U.putB zs), .int .i64 (U.putE zs)]) ∧ Below w.heap.size w w' := by
  rcases h.2.2 with ⟨h0, a, c, rfl⟩ | ⟨b, off, cap, rfl, hb, _, hx⟩
  · obtain rfl : zs = [] := List.eq_nil_of_length_eq_zero h0
    exact Put_nil c a w
  · exact Put_some b off cap zs w hl (row_i32 hx) hb
end Go.Proofs.YthhphmhddeoagaaDoor
