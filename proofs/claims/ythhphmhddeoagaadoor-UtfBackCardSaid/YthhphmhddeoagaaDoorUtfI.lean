/- The reference's Put. -/
import Derived.Test.YthhphmhddeoagaaDoorUtfH
namespace Go.Proofs.YthhphmhddeoagaaDoor
open Go.RowKit

theorem len_widthZ (z : Int) (h : Lib.validRune z = true) : ((Lib.encodeRune z).length : Int) = widthZ z := U.enc_len_of z h

theorem str_snoc (l m : List UInt8) : (⟨l.toArray⟩ : ByteArray) ++ ⟨m.toArray⟩ = ⟨(l ++ m).toArray⟩ := by
  apply ByteArray.ext
  rw [ByteArray.data_append]
  simp

theorem encL_le (zs : List Int) : (U.encL zs).length ≤ 4 * zs.length := by
  induction zs with
  | nil => simp [U.encL]
  | cons z zs ih =>
    have := U.enc_length z
    simp only [U.encL, List.flatMap_cons, List.length_append, List.length_cons] at ih ⊢
    omega

set_option maxHeartbeats 1000000 in
theorem rPut_some (b off cap : Nat) (zs : List Int) (w : World) (hl : zs.length ≤ 20000) (hr : ∀ z ∈ zs, -2147483648 ≤ z ∧ z ≤ 2147483647)
    (hc : ∀ i (h : i < zs.length), w.cell? ⟨b, off + i, none⟩ = some (.int .i32 (zs[i]'h))) (hb : b < w.heap.size) :
    Calls Tryd.prog 14 #[.slice (some ⟨b, off, none⟩) zs.length cap] w fun e w' => e = .returned (.tuple #[.string (U.putB zs), .int .i64 (U.putE zs)]) ∧ Below w.heap.size w w' := by
  obtain ⟨n, hn⟩ : ∃ n, zs.length = n := ⟨_, rfl⟩
  rw [hn]
  have HC := Lib.hid hc
  have HN := Lib.hid hn
  have HR := Lib.hid hr
  have hn2 : n ≤ 20000 := by omega
  clear hc hn hl hr
  go_enter Tryd.func14, Tryd.ntmps14
  go_wp2
  go_loopw [4, 5] (fun s i wr => ∃ k m : Nat, i = .int .i64 k ∧ k ≤ n ∧ s = .int .i64 m ∧ m = (U.encL (zs.take k)).length ∧ U.okL (zs.take k) = true ∧ w = wr) (fun _ i _ => n - (intOf i).toNat)
  case atStart => exact ⟨0, 0, rfl, Nat.zero_le _, rfl, rfl, rfl, rfl⟩
  case round =>
    obtain ⟨k, m, rfl, hk, rfl, hm, hok, rfl⟩ := hrel
    have hml : m ≤ 80000 := by
      have := encL_le (zs.take k)
      rw [List.length_take] at this
      omega
    have HM := Lib.hid hm
    have HOK := Lib.hid hok
    clear hm hok
    by_cases hlt : k < n
    · have hlt' : (k : Int) < (n : Int) := by omega
      have hlt2 : k < zs.length := by rw [HN.out]; exact hlt
      obtain ⟨z, hz⟩ : ∃ z, zs[k]'hlt2 = z := ⟨_, rfl⟩
      have c0 : w.cell? ⟨b, off + k, none⟩ = some (.int .i32 z) := by rw [← hz]; exact HC.out k hlt2
      obtain ⟨r0, r1⟩ := HR.out z (by rw [← hz]; exact List.getElem_mem hlt2)
      have HZ := Lib.hid hz
      clear hz
      by_cases hv : Lib.validRune z = true
      · have vc : ∀ W : World, Calls Tryd.prog 22 #[.int .i64 z] W fun e w' => e = .returned (.bool true) ∧ W = w' := fun W => by
          have := may_any z W; rwa [hv] at this
        obtain ⟨q, hq⟩ : ∃ q, (Lib.encodeRune z).length = q := ⟨_, rfl⟩
        have hq4 := U.enc_length z
        rw [hq] at hq4
        obtain ⟨q1, q2⟩ := hq4
        have wc : ∀ W : World, Calls Tryd.prog 23 #[.int .i64 z] W fun e w' => e = .returned (.int .i64 q) ∧ W = w' := fun W => by
          rw [← hq, len_widthZ z hv]; exact width_any z W
        have hnext : U.okL (zs.take (k + 1)) = true := by rw [U.take_snoc zs k hlt2, U.okL_snoc, HOK.out, HZ.out, hv]; rfl
        have hnext2 : m + q = (U.encL (zs.take (k + 1))).length := by rw [U.take_snoc zs k hlt2, U.encL_snoc, HZ.out, List.length_append, hq, HM.out]
        have HNX := Lib.hid hnext
        have HNX2 := Lib.hid hnext2
        clear hnext hv hq hnext2
        go_wp2_with (first | (go_at_call 22; refine (vc _).mono ?_; rintro e w2 ⟨rfl, rfl⟩) | (go_at_call 23; refine (wc _).mono ?_; rintro e w2 ⟨rfl, rfl⟩))
        go_roundw
        case rel => exact ⟨k + 1, m + q, by go_num, by omega, by go_num, HNX2.out, HNX.out, trivial⟩
        case measure => simp [intOf]; omega
      · have hv' : Lib.validRune z = false := by simpa using hv
        have vc : ∀ W : World, Calls Tryd.prog 22 #[.int .i64 z] W fun e w' => e = .returned (.bool false) ∧ W = w' := fun W => by
          have := may_any z W; rwa [hv'] at this
        have hbad := U.okL_bad zs k hlt2 (by rw [HZ.out]; exact hv')
        have e1 : U.putE zs = 2 := by simp [U.putE, hbad]
        have e2 : U.putB zs = ByteArray.empty := by simp [U.putB, hbad]
        have E1 := Lib.hid e1
        have E2 := Lib.hid e2
        clear hv hv' hbad e1 e2
        go_wp2_with (go_at_call 22; refine (vc _).mono ?_; rintro e w2 ⟨rfl, rfl⟩)
        rw [E1.out, E2.out]
        go_ret2
        exact ⟨rfl, Below.refl _ _⟩
    · obtain rfl : k = n := by omega
      have htk : zs.take k = zs := List.take_of_length_le (by have := HN.out; omega)
      have hok : U.okL zs = true := by have := HOK.out; rwa [htk] at this
      have hm : m = (U.encL zs).length := by have := HM.out; rwa [htk] at this
      by_cases h4 : 4000 < m
      · have e1 : U.putE zs = 3 := by simp only [U.putE, hok, ← hm, h4, if_true]
        have e2 : U.putB zs = ByteArray.empty := by simp only [U.putB, hok, ← hm, h4, if_true]
        have E1 := Lib.hid e1
        have E2 := Lib.hid e2
        have h4' : (4000 : Int) < (m : Int) := by omega
        clear hm hok htk e1 e2
        go_wp2
        rw [E1.out, E2.out]
        go_ret2
        exact ⟨rfl, Below.refl _ _⟩
      · have e1 : U.putE zs = 0 := by simp only [U.putE, hok, ← hm, h4, if_true, if_false]
        have e2 : U.putB zs = ⟨(U.encL zs).toArray⟩ := by simp only [U.putB, hok, ← hm, h4, if_true, if_false]
        have E1 := Lib.hid e1
        have E2 := Lib.hid e2
        have h4' : ¬ (4000 : Int) < (m : Int) := by omega
        have hm4 : m ≤ 4000 := by omega
        have HM2 := Lib.hid hm
        have HOK2 := Lib.hid hok
        clear hm hok htk e1 e2 h4
        go_wp2
        go_loopw [6, 7] (fun s i wr => ∃ j : Nat, i = .int .i64 j ∧ j ≤ k ∧ s = .string ⟨(U.encL (zs.take j)).toArray⟩ ∧ Below w.heap.size w wr) (fun _ i _ => k - (intOf i).toNat)
        case atStart => exact ⟨0, rfl, Nat.zero_le _, rfl, Below.refl _ _⟩
        case round =>
          obtain ⟨j, rfl, hj, rfl, hbel⟩ := hrel
          by_cases hlt3 : j < k
          · have hlt' : (j : Int) < (k : Int) := by omega
            have hlt2 : j < zs.length := by rw [HN.out]; exact hlt3
            obtain ⟨z, hz⟩ : ∃ z, zs[j]'hlt2 = z := ⟨_, rfl⟩
            have c0 : wr.cell? ⟨b, off + j, none⟩ = some (.int .i32 z) := by rw [← hz]; exact (hbel.cell (p := ⟨b, off + j, none⟩) hb).trans (HC.out j hlt2)
            obtain ⟨r0, r1⟩ := HR.out z (by rw [← hz]; exact List.getElem_mem hlt2)
            have hv : Lib.validRune z = true := by
              have := HOK2.out
              simp only [U.okL, List.all_eq_true] at this
              exact this z (by rw [← hz]; exact List.getElem_mem hlt2)
            have bc := fun W => bytes_any z W hv
            obtain ⟨sb, hsb⟩ : ∃ sb : ByteArray, ⟨(U.encL (zs.take j)).toArray⟩ = sb := ⟨_, rfl⟩
            obtain ⟨eb, heb⟩ : ∃ eb : ByteArray, ⟨(Lib.encodeRune z).toArray⟩ = eb := ⟨_, rfl⟩
            have hjoin : sb ++ eb = ⟨(U.encL (zs.take (j + 1))).toArray⟩ := by
              rw [← hsb, ← heb, str_snoc, U.take_snoc zs j hlt2, U.encL_snoc, hz]
            rw [hsb]
            rw [heb] at bc
            have hsz : sb.size + eb.size ≤ 100000 := by
              have h1 := encL_le (zs.take j)
              have h2 := (U.enc_length z).2
              rw [List.length_take] at h1
              have h3 : sb.size = (U.encL (zs.take j)).length := by rw [← hsb]; simp [ByteArray.size]
              have h4 : eb.size = (Lib.encodeRune z).length := by rw [← heb]; simp [ByteArray.size]
              omega
            have HJ := Lib.hid hjoin
            have HB := Lib.hid bc
            clear hz hv hsb heb hjoin bc
            go_wp2_with (go_at_call 24; refine (HB.out _).mono ?_; rintro e w3 ⟨rfl, hb3⟩)
            go_roundw
            case rel => exact ⟨j + 1, by go_num, by omega, congrArg Value.string HJ.out, below_call hbel hb3⟩
            case measure => simp [intOf]; omega
          · obtain rfl : j = k := by omega
            have htk : zs.take j = zs := List.take_of_length_le (by have := HN.out; omega)
            rw [htk]
            obtain ⟨sb, hsb⟩ : ∃ sb : ByteArray, ⟨(U.encL zs).toArray⟩ = sb := ⟨_, rfl⟩
            rw [hsb]
            have E3 := Lib.hid hsb
            clear htk hsb
            go_wp2
            rw [E1.out, E2.out, E3.out]
            go_ret2
            exact ⟨rfl, hbel⟩

theorem rPut_nil (c : Nat) (a : Option Addr) (w : World) :
    Calls Tryd.prog 14 #[.slice a 0 c] w fun e w' => e = .returned (.tuple #[.string (U.putB []), .int .i64 (U.putE [])]) ∧ Below w.heap.size w w' := by
  have e1 : U.putE [] = 0 := rfl
  have e2 : U.putB [] = ByteArray.empty := rfl
  rw [e1, e2]
  clear e1 e2
  go_enter Tryd.func14, Tryd.ntmps14
  go_wp2
  refine wp_loop_rounds 1 ?_
  rw [rounds_succ]
  go_wp2
  refine wp_loop_rounds 1 ?_
  rw [rounds_succ]
  go_wp2
  go_ret2
  exact ⟨rfl, Below.refl _ _⟩

theorem rPut_any (v : Value) (zs : List Int) (w : World) (hl : zs.length ≤ 20000) (hr : ∀ z ∈ zs, -2147483648 ≤ z ∧ z ≤ 2147483647) (h : Row w w.heap.size 1 v zs.length (i32Cells zs)) :
    Calls Tryd.prog 14 #[v] w fun e w' => e = .returned (.tuple #[.string (U.putB zs), .int .i64 (U.putE zs)]) ∧ Below w.heap.size w w' := by
  rcases h.2.2 with ⟨h0, a, c, rfl⟩ | ⟨b, off, cap, rfl, hb, _, hx⟩
  · obtain rfl : zs = [] := List.eq_nil_of_length_eq_zero h0
    exact rPut_nil c a w
  · exact rPut_some b off cap zs w hl hr (row_i32 hx) hb
end Go.Proofs.YthhphmhddeoagaaDoor
